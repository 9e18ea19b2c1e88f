/- The reference's Arrive, other ways. -/
import Derived.Test.YtkfimfhkmgcnlaaRefA0
namespace Go.Proofs.Ytkfimfhkmgcnlaa.RefG
set_option linter.unusedVariables false
set_option linter.unusedSimpArgs false
set_option linter.unusedSectionVars false
open Go Go.RowKit Go.Proofs.Ytkfimfhkmgcnlaa.B Go.Proofs.Ytkfimfhkmgcnlaa.Gate

section
variable {w : World} {g b n : Nat} {num kind0 : Int} {L : List Int} (h : RefAt w g b n num kind0 L) (hn6 : n ≤ 6) (hW : Well n L) (hnum : 0 ≤ num) (i : Nat) (mk nd ni bk mn kind : Int) (A : Option Addr) (dn dc : Nat)
include h hn6 hW hnum

set_option maxRecDepth 100000 in
set_option maxHeartbeats 1000000 in
theorem arrive_11 (hkd : kind = 0 ∨ kind = 1) (h2 : i < n) (hb : 0 < num) (hk : kind0 = 1) (hm : mk = 1) (hn : mn < 1) : Calls Try.prog 20 #[.pointer (some ⟨g, 0, none⟩), .int .i64 i, .agg #[.int .i64 mk, .int .i64 nd, .int .i64 ni, .int .i64 bk, .int .i64 mn, .slice A dn dc], .int .i64 kind] w
      (ArrPostR w g b n num kind0 L i mk mn kind) := by
  have hC : arrC n num kind0 L i mk mn kind = -1 := by unfold arrC; grind
  have HC := Lib.hid hC
  clear hC
  have hz : (num == 0) = false := by simp; omega
  have eb : decide (0 < num) = true := by simpa using hb
  subst hk
  subst hm
  have hn' : decide (mn < 1) = true := by simpa using hn
  have HK := Lib.hid hkd
  clear hkd
  have c0 := blk_cell h.1 0; have c1 := blk_cell h.1 1; have c2 := blk_cell h.1 2
  have hg := h.lt1; have hbl := h.lt2; have hne := h.ne
  simp only [List.size_toArray, List.getElem?_toArray, List.getElem?_cons_zero, List.getElem?_cons_succ] at c0 c1 c2
  have hG0 : ∀ (o : Obj), RefAt (w.alloc o) g b n num 1 L := fun o => h.kept (S := fun _ => False) ((Chg.refl _ _).alloc o) (fun h => h) (fun h => h)
  have HG := Lib.hid (fun (o : Obj) (m : Nat) => (show RefAt ((w.alloc o).drewN m) g b n num 1 L from hG0 o))
  have HG0 := Lib.hid hG0
  have HW := Lib.hid hW
  have hcm := h.2.cell (i := i) (by rw [cm_length]; exact h2)
  rw [cm_get h2] at hcm
  clear hG0 hW
  go_enter Try.func20, Try.ntmps20
  go_upto_region 1 with (fail)
  go_cut [30] (fun v30 wc => v30 = .bool false ∧ wc = w.alloc (.cells #[.int .i64 1, .int .i64 nd, .int .i64 ni, .int .i64 bk, .int .i64 mn, .slice A dn dc] 29))
  case first =>
    have h2' : (i : Int) < n := by omega
    rcases HK.out with rfl | rfl <;> (go_wp2; go_meet; case rel => exact ⟨by simp; omega, rfl⟩)
  case rest =>
    obtain ⟨rfl, rfl⟩ := hcut
    go_wp2_with (fail)
    go_quiet (fail)
    go_wp2_with (fail)
    go_ret
    refine Or.inl ⟨by rw [HC.out]; decide, ret_int HC.out.symm, ?_, ?_⟩
    · first | exact HG0.out _ | exact HG.out _ _
    · first | exact (Chg.refl _ _).alloc _ | exact ((Chg.refl _ _).alloc _).drewN _

set_option maxRecDepth 100000 in
set_option maxHeartbeats 1000000 in
theorem arrive_12 (hkd : kind = 0 ∨ kind = 1) (h2 : i < n) (hb : 0 < num) (hk : kind0 = 1) (hm : mk = 1) (hn : ¬ mn < 1) (he : mn ≠ num) : Calls Try.prog 20 #[.pointer (some ⟨g, 0, none⟩), .int .i64 i, .agg #[.int .i64 mk, .int .i64 nd, .int .i64 ni, .int .i64 bk, .int .i64 mn, .slice A dn dc], .int .i64 kind] w
      (ArrPostR w g b n num kind0 L i mk mn kind) := by
  have hC : arrC n num kind0 L i mk mn kind = -1 := by unfold arrC; grind
  have HC := Lib.hid hC
  clear hC
  have hz : (num == 0) = false := by simp; omega
  have eb : decide (0 < num) = true := by simpa using hb
  subst hk
  subst hm
  have hn' : decide (mn < 1) = false := by simpa using hn
  clear hn
  have he' : (mn != num) = true := by simpa using he
  clear he
  have HK := Lib.hid hkd
  clear hkd
  have c0 := blk_cell h.1 0; have c1 := blk_cell h.1 1; have c2 := blk_cell h.1 2
  have hg := h.lt1; have hbl := h.lt2; have hne := h.ne
  simp only [List.size_toArray, List.getElem?_toArray, List.getElem?_cons_zero, List.getElem?_cons_succ] at c0 c1 c2
  have hG0 : ∀ (o : Obj), RefAt (w.alloc o) g b n num 1 L := fun o => h.kept (S := fun _ => False) ((Chg.refl _ _).alloc o) (fun h => h) (fun h => h)
  have HG := Lib.hid (fun (o : Obj) (m : Nat) => (show RefAt ((w.alloc o).drewN m) g b n num 1 L from hG0 o))
  have HG0 := Lib.hid hG0
  have HW := Lib.hid hW
  have hcm := h.2.cell (i := i) (by rw [cm_length]; exact h2)
  rw [cm_get h2] at hcm
  clear hG0 hW
  go_enter Try.func20, Try.ntmps20
  go_upto_region 1 with (fail)
  go_cut [30] (fun v30 wc => v30 = .bool false ∧ wc = w.alloc (.cells #[.int .i64 1, .int .i64 nd, .int .i64 ni, .int .i64 bk, .int .i64 mn, .slice A dn dc] 29))
  case first =>
    have h2' : (i : Int) < n := by omega
    rcases HK.out with rfl | rfl <;> (go_wp2; go_meet; case rel => exact ⟨by simp; omega, rfl⟩)
  case rest =>
    obtain ⟨rfl, rfl⟩ := hcut
    go_wp2_with (fail)
    go_quiet (fail)
    go_wp2_with (fail)
    go_ret
    refine Or.inl ⟨by rw [HC.out]; decide, ret_int HC.out.symm, ?_, ?_⟩
    · first | exact HG0.out _ | exact HG.out _ _
    · first | exact (Chg.refl _ _).alloc _ | exact ((Chg.refl _ _).alloc _).drewN _

set_option maxRecDepth 100000 in
set_option maxHeartbeats 1000000 in
theorem arrive_13 (hkd : kind = 0 ∨ kind = 1) (h2 : i < n) (hb : 0 < num) (hk : kind0 = 1) (hm : mk = 1) (hn : ¬ mn < 1) (he : mn = num) (hq : kind ≠ kind0) : Calls Try.prog 20 #[.pointer (some ⟨g, 0, none⟩), .int .i64 i, .agg #[.int .i64 mk, .int .i64 nd, .int .i64 ni, .int .i64 bk, .int .i64 mn, .slice A dn dc], .int .i64 kind] w
      (ArrPostR w g b n num kind0 L i mk mn kind) := by
  have hC : arrC n num kind0 L i mk mn kind = -1 := by unfold arrC; grind
  have HC := Lib.hid hC
  clear hC
  have hz : (num == 0) = false := by simp; omega
  have eb : decide (0 < num) = true := by simpa using hb
  subst hk
  subst hm
  have hn' : decide (mn < 1) = false := by simpa using hn
  clear hn
  have he' : (mn != num) = false := by simpa using he
  clear he
  have hq' : (kind != 1) = true := by simpa using hq
  clear hq
  have HK := Lib.hid hkd
  clear hkd
  have c0 := blk_cell h.1 0; have c1 := blk_cell h.1 1; have c2 := blk_cell h.1 2
  have hg := h.lt1; have hbl := h.lt2; have hne := h.ne
  simp only [List.size_toArray, List.getElem?_toArray, List.getElem?_cons_zero, List.getElem?_cons_succ] at c0 c1 c2
  have hG0 : ∀ (o : Obj), RefAt (w.alloc o) g b n num 1 L := fun o => h.kept (S := fun _ => False) ((Chg.refl _ _).alloc o) (fun h => h) (fun h => h)
  have HG := Lib.hid (fun (o : Obj) (m : Nat) => (show RefAt ((w.alloc o).drewN m) g b n num 1 L from hG0 o))
  have HG0 := Lib.hid hG0
  have HW := Lib.hid hW
  have hcm := h.2.cell (i := i) (by rw [cm_length]; exact h2)
  rw [cm_get h2] at hcm
  clear hG0 hW
  go_enter Try.func20, Try.ntmps20
  go_upto_region 1 with (fail)
  go_cut [30] (fun v30 wc => v30 = .bool false ∧ wc = w.alloc (.cells #[.int .i64 1, .int .i64 nd, .int .i64 ni, .int .i64 bk, .int .i64 mn, .slice A dn dc] 29))
  case first =>
    have h2' : (i : Int) < n := by omega
    rcases HK.out with rfl | rfl <;> (go_wp2; go_meet; case rel => exact ⟨by simp; omega, rfl⟩)
  case rest =>
    obtain ⟨rfl, rfl⟩ := hcut
    go_wp2_with (fail)
    go_quiet (fail)
    go_wp2_with (fail)
    go_ret
    refine Or.inl ⟨by rw [HC.out]; decide, ret_int HC.out.symm, ?_, ?_⟩
    · first | exact HG0.out _ | exact HG.out _ _
    · first | exact (Chg.refl _ _).alloc _ | exact ((Chg.refl _ _).alloc _).drewN _

set_option maxRecDepth 100000 in
set_option maxHeartbeats 1000000 in
theorem arrive_14 (hkd : kind = 0 ∨ kind = 1) (h2 : i < n) (hb : 0 < num) (hk : kind0 = 1) (hm : mk = 1) (hn : ¬ mn < 1) (he : mn = num) (hq : kind = kind0) (hL : (i : Int) ∈ L) : Calls Try.prog 20 #[.pointer (some ⟨g, 0, none⟩), .int .i64 i, .agg #[.int .i64 mk, .int .i64 nd, .int .i64 ni, .int .i64 bk, .int .i64 mn, .slice A dn dc], .int .i64 kind] w
      (ArrPostR w g b n num kind0 L i mk mn kind) := by
  have hC : arrC n num kind0 L i mk mn kind = -1 := by unfold arrC; grind
  have HC := Lib.hid hC
  clear hC
  have hz : (num == 0) = false := by simp; omega
  have eb : decide (0 < num) = true := by simpa using hb
  subst hk
  subst hm
  have hn' : decide (mn < 1) = false := by simpa using hn
  clear hn
  have he' : (mn != num) = false := by simpa using he
  clear he
  have hq' : (kind != 1) = false := by simpa using hq
  clear hq
  have hL' : decide ((i : Int) ∈ L) = true := by simpa using hL
  have HK := Lib.hid hkd
  clear hkd
  have c0 := blk_cell h.1 0; have c1 := blk_cell h.1 1; have c2 := blk_cell h.1 2
  have hg := h.lt1; have hbl := h.lt2; have hne := h.ne
  simp only [List.size_toArray, List.getElem?_toArray, List.getElem?_cons_zero, List.getElem?_cons_succ] at c0 c1 c2
  have hG0 : ∀ (o : Obj), RefAt (w.alloc o) g b n num 1 L := fun o => h.kept (S := fun _ => False) ((Chg.refl _ _).alloc o) (fun h => h) (fun h => h)
  have HG := Lib.hid (fun (o : Obj) (m : Nat) => (show RefAt ((w.alloc o).drewN m) g b n num 1 L from hG0 o))
  have HG0 := Lib.hid hG0
  have HW := Lib.hid hW
  have hcm := h.2.cell (i := i) (by rw [cm_length]; exact h2)
  rw [cm_get h2] at hcm
  rw [hL'] at hcm; clear hL' hL
  clear hG0 hW
  go_enter Try.func20, Try.ntmps20
  go_upto_region 1 with (fail)
  go_cut [30] (fun v30 wc => v30 = .bool false ∧ wc = w.alloc (.cells #[.int .i64 1, .int .i64 nd, .int .i64 ni, .int .i64 bk, .int .i64 mn, .slice A dn dc] 29))
  case first =>
    have h2' : (i : Int) < n := by omega
    rcases HK.out with rfl | rfl <;> (go_wp2; go_meet; case rel => exact ⟨by simp; omega, rfl⟩)
  case rest =>
    obtain ⟨rfl, rfl⟩ := hcut
    go_wp2_with (fail)
    go_quiet (fail)
    go_wp2_with (fail)
    go_ret
    refine Or.inl ⟨by rw [HC.out]; decide, ret_int HC.out.symm, ?_, ?_⟩
    · first | exact HG0.out _ | exact HG.out _ _
    · first | exact (Chg.refl _ _).alloc _ | exact ((Chg.refl _ _).alloc _).drewN _

set_option maxRecDepth 100000 in
set_option maxHeartbeats 1000000 in
theorem arrive_15 (hkd : kind = 0 ∨ kind = 1) (h2 : i < n) (hb : 0 < num) (hk : kind0 = 1) (hm : mk = 1) (hn : ¬ mn < 1) (he : mn = num) (hq : kind = kind0) (hL : (i : Int) ∉ L) : Calls Try.prog 20 #[.pointer (some ⟨g, 0, none⟩), .int .i64 i, .agg #[.int .i64 mk, .int .i64 nd, .int .i64 ni, .int .i64 bk, .int .i64 mn, .slice A dn dc], .int .i64 kind] w
      (ArrPostR w g b n num kind0 L i mk mn kind) := by
  have hC : arrC n num kind0 L i mk mn kind = 5 := by unfold arrC; grind
  have HC := Lib.hid hC
  clear hC
  have hz : (num == 0) = false := by simp; omega
  have eb : decide (0 < num) = true := by simpa using hb
  subst hk
  subst hm
  have hn' : decide (mn < 1) = false := by simpa using hn
  clear hn
  have he' : (mn != num) = false := by simpa using he
  clear he
  have hq' : (kind != 1) = false := by simpa using hq
  clear hq
  have hL' : decide ((i : Int) ∈ L) = false := by simpa using hL
  have HK := Lib.hid hkd
  clear hkd
  have c0 := blk_cell h.1 0; have c1 := blk_cell h.1 1; have c2 := blk_cell h.1 2
  have hg := h.lt1; have hbl := h.lt2; have hne := h.ne
  simp only [List.size_toArray, List.getElem?_toArray, List.getElem?_cons_zero, List.getElem?_cons_succ] at c0 c1 c2
  have hG0 : ∀ (o : Obj), RefAt (w.alloc o) g b n num 1 L := fun o => h.kept (S := fun _ => False) ((Chg.refl _ _).alloc o) (fun h => h) (fun h => h)
  have HG := Lib.hid (fun (o : Obj) (m : Nat) => (show RefAt ((w.alloc o).drewN m) g b n num 1 L from hG0 o))
  have HG0 := Lib.hid hG0
  have HW := Lib.hid hW
  have hcm := h.2.cell (i := i) (by rw [cm_length]; exact h2)
  rw [cm_get h2] at hcm
  have f1 := blk_free h.1 1; have f2 := blk_free h.1 2; have fb := h.2.free i
  rw [hL'] at hcm; clear hL' hL
  clear hG0 hW
  go_enter Try.func20, Try.ntmps20
  go_upto_region 1 with (fail)
  go_cut [30] (fun v30 wc => v30 = .bool false ∧ wc = w.alloc (.cells #[.int .i64 1, .int .i64 nd, .int .i64 ni, .int .i64 bk, .int .i64 mn, .slice A dn dc] 29))
  case first =>
    have h2' : (i : Int) < n := by omega
    rcases HK.out with rfl | rfl <;> (go_wp2; go_meet; case rel => exact ⟨by simp; omega, rfl⟩)
  case rest =>
    obtain ⟨rfl, rfl⟩ := hcut
    go_wp2_with (fail)
    go_quiet (fail)
    go_wp2_with (fail)
    obtain ⟨B1, B2⟩ := (HG.out (.cells #[.int .i64 1, .int .i64 nd, .int .i64 ni, .int .i64 bk, .int .i64 mn, .slice A dn dc] 29) nq).bar i h2 mn kind
    have HB1 := Lib.hid B1
    have HB2 := Lib.hid ((((Chg.refl (fun k => k = g ∨ k = b) w).alloc _).drewN _).trans B2)
    have HWl := Lib.hid (HW.out.add h2)
    obtain ⟨L', hL'⟩ : ∃ L', L' = addL L i := ⟨_, rfl⟩
    rw [← hL'] at HB1 HWl
    have HLe := Lib.hid hL'
    clear hL' B1 B2 c0 c1 c2 hcm f1 f2 fb HG HG0
    go_loopg [10, 11] n (fun kq v10 v11 wr => ∃ k : Nat, v11 = .int .i64 k ∧ k + kq = n ∧ v10 = .bool (((cm n L').take k).all id) ∧ Hid (RefAt wr g b n mn kind L' ∧ Chg (fun k => k = g ∨ k = b) w wr))
    case atStart => exact ⟨0, rfl, by omega, by simp, HB1.out, HB2.out⟩
    case round =>
      clear HB1 HB2
      obtain ⟨k, rfl, hkq, rfl, hR⟩ := hrel
      obtain ⟨R, C⟩ := hR.out
      have r0 := blk_cell R.1 0
      simp only [List.size_toArray, List.getElem?_toArray, List.getElem?_cons_zero] at r0
      have HR := Lib.hid R; have HC2 := Lib.hid C
      by_cases hkn : k < n
      · have hck := R.2.cell (i := k) (by rw [cm_length]; exact hkn)
        rw [cm_get hkn] at hck
        have ht : ((cm n L').take (k + 1)).all id = (((cm n L').take k).all id && decide ((k : Int) ∈ L')) := by
          rw [List.take_succ_eq_append_getElem (by rw [cm_length]; exact hkn), List.all_append]
          congr 1
          have := cm_get (L := L') hkn
          simp only [List.getD_eq_getElem?_getD] at this
          rw [List.getElem?_eq_getElem (by rw [cm_length]; exact hkn)] at this
          simpa using this
        have HT := Lib.hid ht
        clear ht R C hR
        generalize ((cm n L').take k).all id = al at HT ⊢
        cases al
        all_goals
          go_wp2
          go_roundg (gk - 1)
          case measure => omega
          case rel => exact ⟨k + 1, by simp, by omega, by rw [HT.out]; simp, HR.out, HC2.out⟩
      · have hall : ((cm n L').take k).all id = decide ((L'.length : Int) = n) := by
          rw [List.take_of_length_le (by rw [cm_length]; omega)]; exact HWl.out.all
        rw [hall]
        have hcan := Lib.hid (cancel R hn6)
        by_cases hl : (L'.length : Int) = n
        all_goals
          simp only [hl, decide_true, decide_false]
          have HLL := Lib.hid hl
          clear R C hR hall hl
          rcases HK.out with rfl | rfl
        all_goals
          go_wp2_with (first | (go_at_call 18; refine hcan.out.mono ?_; rintro e w' ⟨b', rfl, q1, q2, q3⟩; have Q1 := Lib.hid q1; have Q2 := Lib.hid q2; clear q1 q2))
        all_goals
          go_ret
          refine Or.inr ⟨HC.out, ?_⟩
          unfold BarPostR
          rw [← HLe.out]
          have := HLL.out
          first
            | exact ⟨b', ret_int (by unfold barA; split <;> first | rfl | (exfalso; simp_all; done) | (exfalso; simp_all; omega)), by simpa [barN, barL, HLL.out] using Q1.out, HC2.out.trans (Q2.out.mono (fun k hk => .inl hk)), .inr (Nat.le_trans HC2.out.size q3)⟩
            | exact ⟨b, ret_int (by unfold barA; split <;> first | rfl | (exfalso; simp_all; done) | (exfalso; simp_all; omega)), by simpa [barN, barL, HLL.out] using HR.out, HC2.out, .inl rfl⟩
end
end Go.Proofs.Ytkfimfhkmgcnlaa.RefG
