/- CheckpointOnce: the walk. -/
import Derived.Test.YtkfimfhkmgcnlaaOnceW
import Derived.Test.YtkfimfhkmgcnlaaOnceP
import Derived.Deep.LoopGhost
import Derived.Deep.DeepCutAuto
import Derived.Deep.CutBlock
namespace Go.Proofs.Ytkfimfhkmgcnlaa.OnceL
set_option linter.unusedVariables false
set_option linter.unusedSimpArgs false
open Go Go.RowKit Go.Proofs.Ytkfimfhkmgcnlaa.B Go.Proofs.Ytkfimfhkmgcnlaa.Gate Go.Proofs.Ytkfimfhkmgcnlaa.OnceW Go.Proofs.Ytkfimfhkmgcnlaa.OnceP

theorem infoI : (Try.prog.info? 3).map (fun i => (i.zero, i.size, i.bytes)) = some (some (.int .i64 0), 1, 8) := by kernel_rfl
theorem makeI (m : Nat) (hm : m ≤ 1000000) (w : World) : (Instr.makeSlice 22 (.int .i64 (m : Int)) (.int .i64 (m : Int))).run Try.prog w = .ok (.slice (some ⟨w.heap.size, 0, none⟩) m m) (w.alloc (.cells (madeCells #[.int .i64 0] m) 3)) :=
  run_make_row' 22 3 (.int .i64 0) 8 Try.underlying22 infoI rfl .i64 .i64 m (by omega) (by omega) w

set_option maxHeartbeats 4000000 in
set_option maxRecDepth 100000 in
theorem good0 (n : Nat) (bs ls : List Int) (A0 A1 : Option Addr) (c0 c1 : Nat) (w : World) (hn : 1 ≤ n) (hn6 : n ≤ 6) (hll : ls.length ≤ 100) (hbl : bs.length = n)
    (rb : ReadsI w A0 bs) (rl : ReadsI w A1 ls) :
    Calls Try.prog 3 #[.int .i64 n, .int .i64 0, .slice A0 n c0, .slice A1 ls.length c1] w fun e w' => e = .returned (.bool true) ∧ Chg (fun _ => False) w w' := by
  have hmk := makeI n (by omega)
  obtain ⟨ad0, rfl, hb0⟩ := rb (by omega)
  have RB0 := Lib.hid hb0; clear hb0
  have RB := Lib.hid rb; have RL := Lib.hid rl; have HBL := Lib.hid hbl
  clear rb rl hbl
  go_enter Try.func3, Try.ntmps3
  go_wp2_with fail
  refine (small _).mono ?_
  rintro e w1 ⟨rfl, C1⟩
  have D1 := Lib.hid C1; clear C1
  go_wp2_with fail
  all_goals
    refine (new _ _).mono ?_
    rintro e w2 ⟨g, b, rfl, G2, C2, hg, hb⟩
    have hT : GateAt w2 g b n 0 0 [] ∧ Chg (fun _ => False) w w2 ∧ w.heap.size ≤ g ∧ w.heap.size ≤ b := by
      have := D1.out.size
      rw [show max (n : Int) 0 = n by omega] at G2
      exact ⟨G2, D1.out.trans C2, by omega, by omega⟩
    have T := Lib.hid hT; clear hT D1 G2 C2 hg hb
    go_wp2_with fail
    go_loopw [12] (fun i wr => ∃ (k : Nat) (xs : List Int), i = .int .i64 k ∧ k ≤ n ∧ Hid (xs.length = n ∧ (∀ c, c < n → 0 ≤ xs.getD c 0 ∧ xs.getD c 0 ≤ 4)) ∧ Hid (RowI wr w2.heap.size xs) ∧ Hid (GateAt wr g b n 0 0 [] ∧ Chg (fun _ => False) w wr)) (fun i _ => n - (intOf i).toNat)
    case atStart =>
      refine ⟨0, List.replicate n 0, rfl, Nat.zero_le _, ⟨by simp, fun c hc => ?_⟩, RowI.new _ _, T.out.1.kept ((Chg.refl (fun _ => False) _).alloc _) (fun h => h) (fun h => h), T.out.2.1.alloc _⟩
      simp [List.getD_eq_getElem?_getD, List.getElem?_replicate, hc]
    case round =>
      obtain ⟨k, xs, rfl, hk, hx, hR, hG⟩ := hrel
      have hgl : w.heap.size ≤ w2.heap.size := T.out.2.1.size
      generalize w2.heap.size = gl at hR hgl ⊢
      have hng : gl ≠ g := ne_blk hR.out hG.out.1.1 (by simp)
      have hnb : gl ≠ b := by
        obtain ⟨es, c, hh, _⟩ := hG.out.1.2
        exact ne_blk hR.out hh (by simp)
      by_cases hlt : k < n
      · have hcl : wr.cell? (ad0.add k) = some (.int .i64 (bs.getD k 0)) := by
          obtain ⟨ad, e, h⟩ := (RB.out.kept hG.out.2) (by rw [HBL.out]; omega)
          cases e; exact h k (by rw [HBL.out]; exact hlt)
        have hst := hR.out.cell (i := k) (by rw [hx.out.1]; exact hlt)
        have hfr := hR.out.free k
        go_wp2_with (first | (go_at_call 10; refine (mod _ _ _ (by decide) (by decide)).mono ?_; rintro e w' ⟨rfl, rfl⟩))
        refine ⟨⟨k + 1, xs.set k (bs.getD k 0 % 5), by simp, by omega, ⟨by simp [hx.out.1], fun c hc => ?_⟩, hR.out.set k _, hG.out.1.kept ((Chg.refl (fun k => k = gl) _).setCell (p := ⟨gl, k, none⟩) (.inl rfl) _) (fun h => hng h.symm) (fun h => hnb h.symm), hG.out.2.setCell (.inr hgl) _⟩, by simp [intOf]; omega⟩
        rw [getD_set _ _ _ _ (by rw [hx.out.1]; exact hlt)]
        split
        · omega
        · exact hx.out.2 c hc
      · go_wp2_with fail
        go_loopw [13, 14, 15] (fun cm sn i wr => ∃ (k : Nat) (xs : List Int) (b' : Nat) (num kind0 : Int) (L : List Int) (came snaps : Int), i = .int .i64 k ∧ cm = .int .i64 came ∧ sn = .int .i64 snaps ∧ k ≤ ls.length + 6 * n ∧
            0 ≤ came ∧ came ≤ 6 ∧ 0 ≤ snaps ∧ snaps ≤ 1 ∧ w.heap.size ≤ b' ∧
            Hid (Inv n ls.length k 0 xs num kind0 L came snaps) ∧ Hid (RowI wr gl xs) ∧ Hid (GateAt wr g b' n num kind0 L) ∧ Hid (Chg (fun _ => False) w wr)) (fun _ _ i _ => ls.length + 6 * n - (intOf i).toNat)
        case atStart =>
          refine ⟨0, xs, b, 0, 0, [], 0, 0, rfl, rfl, rfl, by omega, by omega, by omega, by omega, by omega, by have := T.out; omega, inv_start (by omega) hx.out.1 hx.out.2, hR.out, hG.out.1, hG.out.2⟩
        case round =>
          obtain ⟨k2, ys, b', num, kind0, L, came, snaps, rfl, rfl, rfl, hk2, q1, q2, q3, q4, hb', hI, hR2, hG2, hC2⟩ := hrel
          by_cases hlt2 : k2 < ls.length + 6 * n
          · have hnm : ((n : Int) == 0) = false := by simp; omega
            go_upto_if 81 with (fail)
            go_cut [16] (fun v wc => ∃ c : Nat, v = .int .i64 c ∧ c < n ∧ Hid (ls.length ≤ k2 → c = k2 % n) ∧ wc = wr)
            case first =>
              by_cases hlt3 : k2 < ls.length
              · obtain ⟨ad, rfl, h⟩ := (RL.out.kept hC2.out) (by omega)
                have hcl1 := h k2 hlt3
                have hr1 := Int.emod_nonneg (ls.getD k2 0) (show (n : Int) ≠ 0 by omega)
                have hr2 := Int.emod_lt_of_pos (ls.getD k2 0) (show 0 < (n : Int) by omega)
                clear h
                go_wp2_with (first | (go_at_call 10; refine (mod _ _ _ (by omega) (by omega)).mono ?_; rintro e w' ⟨rfl, rfl⟩))
                go_meet
                case rel => exact ⟨(ls.getD k2 0 % n).toNat, by rw [Int.toNat_of_nonneg hr1]; simp [List.getD_eq_getElem?_getD, hlt3], by omega, fun h => by omega, rfl⟩
              · go_wp2
                go_meet
                case rel => exact ⟨k2 % n, by simp, Nat.mod_lt _ (by omega), fun _ => rfl, rfl⟩
            case rest =>
              obtain ⟨c, rfl, hc, hck, rfl⟩ := hcut
              have hcl := hR2.out.cell (i := c) (by rw [hI.out.hlen]; exact hc)
              have hfr := hR2.out.free c
              have hrg := hI.out.rng c hc
              have hng' : gl ≠ g := hng
              have hnb' : gl ≠ b' := by
                obtain ⟨es, c, hh, _⟩ := hG2.out.2
                exact ne_blk hR2.out hh (by simp)
              by_cases hv0 : ys.getD c 0 = 0
              · have hv0' : (ys.getD c 0 == 0) = true := by simpa using hv0
                obtain ⟨S1, S2, S3⟩ := step_bar hI.out (by omega) (.inl rfl) hc hck.out hv0
                have hbz := inv_busy S3
                have hlen := hI.out.hlen
                have hcn : came + 1 ≤ n := by
                  have := cnt_lt ys c (by rw [hlen]; exact hc) (by omega)
                  have := hI.out.hcame
                  omega
                rw [show max (-1) (ys.getD c 0 - 1) = -1 by omega] at S3
                have HI3 := Lib.hid S3
                clear S3 hI
                rw [hv0] at hcl
                by_cases p1 : came + 1 = (n : Int)
                all_goals
                  obtain ⟨a, ha⟩ : ∃ a, a = wantF 0 0 (came + 1) n := ⟨_, rfl⟩
                  rw [← ha] at S2 HI3
                  simp only [wantF, p1, if_true, if_false, and_true, true_and, and_false, false_and, or_false, show ¬ (0 : Int) = 1 by decide] at ha
                  subst ha
                  have p1' : (came + 1 == (n : Int)) = decide (came + 1 = (n : Int)) := by rw [Bool.eq_iff_iff]; simp
                  simp only [p1, decide_true, decide_false] at p1'
                  have HZ := Lib.hid hbz; have HA := Lib.hid S1; have HB := Lib.hid S2
                  have HV := Lib.hid hv0
                  clear S1 S2 hbz hv0 hv0'
                  go_wp2_with fail
                  refine (OnceW.mark _ _).mono ?_
                  rintro e w3 ⟨rfl, C3⟩
                  have D3 := Lib.hid C3; clear C3
                  have hcl3 := (hR2.out.kept D3.out (fun h => h)).cell (i := c) (by rw [hlen]; exact hc)
                  rw [HV.out] at hcl3
                  have hG3 := Lib.hid (hG2.out.kept D3.out (fun h => h) (fun h => h))
                  have hR3 := Lib.hid (hR2.out.kept D3.out (fun h => h))
                  have hC3 := Lib.hid (hC2.out.trans D3.out)
                  have hgl3 := hR3.out.lt
                  have hg3 := hG3.out.lt1
                  have hb3 := hG3.out.lt2
                  go_wp2_with fail
                  refine (bar _ _).mono ?_
                  rintro e w4 ⟨rfl, C4⟩
                  have hgm : w4.heap[w3.heap.size]? = some (.cells #[.int .i64 2, .int .i64 0, .int .i64 0, .int .i64 0, .int .i64 1, .slice none 0 0] 29 (0, 0)) := C4.blk (blk_new _ _) (fun h => h)
                  have k0 := blk_cell hgm 0; have k1 := blk_cell hgm 1; have k2_ := blk_cell hgm 2; have k3 := blk_cell hgm 3; have k4 := blk_cell hgm 4; have k5 := blk_cell hgm 5
                  have f0 := blk_free hgm 0; have f1 := blk_free hgm 1; have f2 := blk_free hgm 2; have f3 := blk_free hgm 3; have f4 := blk_free hgm 4; have f5 := blk_free hgm 5
                  simp at k0 k1 k2_ k3 k4 k5
                  have hG4 := hG3.out.kept (S := fun _ => False) (((Chg.refl _ _).alloc _).trans C4) (fun h => h) (fun h => h)
                  have hR4 := hR3.out.kept (S := fun _ => False) (((Chg.refl _ _).alloc _).trans C4) (fun h => h)
                  have hGs := Lib.hid (fun w' (C : Chg (fun k => k = w3.heap.size) w4 w') => hG4.kept C (by show ¬ g = _; omega) (by show ¬ b' = _; omega))
                  have hRs := Lib.hid (fun w' (C : Chg (fun k => k = w3.heap.size) w4 w') => hR4.kept C (by show ¬ gl = _; omega))
                  have hCs := Lib.hid (fun w' (C : Chg (fun k => k = w3.heap.size) w4 w') => ((hC3.out.alloc _).trans C4).trans' C (by have := hC3.out.size; rintro i h; exact .inr (by omega)))
                  generalize w3.heap.size = gm at *
                  clear C4 hgm hG4 hR4 hcl3
                  go_wp2_with fail
                  refine (arr_bar (hGs.out _ (chg_set6 _ _ _ _ _ _ _ _)) _ _ _ _ _ _ _ _ _ _ _ _ HA.out HB.out rfl rfl).mono ?_
                  rintro e w5 ⟨b5, rfl, G5, C5, hb5⟩
                  have hG5 := Lib.hid G5
                  have hR5 := Lib.hid ((hRs.out _ (chg_set6 _ _ _ _ _ _ _ _)).kept C5 (by rintro (h | h); exact hng' h; exact hnb' h))
                  have hC5 := Lib.hid ((hCs.out _ (chg_set6 _ _ _ _ _ _ _ _)).trans' C5 (by have := T.out; rintro i (h | h) <;> exact .inr (by omega)))
                  have hb5' : w.heap.size ≤ b5 := by
                    rcases hb5 with h | h
                    · omega
                    · exact Nat.le_trans (Chg.size (hCs.out _ (chg_set6 _ _ _ _ _ _ _ _))) h
                  clear G5 C5 hb5 k0 k1 k2_ k3 k4 k5 f0 f1 f2 f3 f4 f5
                  have hnb5 : gl ≠ b5 := by
                    obtain ⟨es, c, hh, _⟩ := hG5.out.2
                    exact ne_blk hR5.out hh (by simp)
                  have hcl5 := hR5.out.cell (i := c) (by rw [hlen]; exact hc)
                  rw [HV.out] at hcl5
                  have hfr5 := hR5.out.free c
                  go_wp2_with fail
                  refine (busyT hG5.out _ HZ.out).mono ?_
                  rintro e w6 ⟨rfl, rfl⟩
                  go_wp2_with fail
                · have hs1 : 0 ≤ (snaps + 1) ∧ (snaps + 1) ≤ 1 := by
                    have := HI3.out.hsn
                    simp only [if_true, show ¬ (3 : Int) = 4 by decide, if_false] at this
                    split at this <;> omega
                  refine ⟨⟨k2 + 1, ys.set c (-1), b5, _, _, _, came + 1, _, by simp, by first | rfl | rw [p1], rfl, by omega, by omega, by omega, hs1.1, hs1.2, hb5', HI3.out, ?_, hG5.out.kept ((Chg.refl (fun k => k = gl) _).setCell (p := ⟨gl, c, none⟩) (.inl rfl) _) (fun h => hng' h.symm) (fun h => hnb5 h.symm), hC5.out.setCell (.inr hgl) _⟩, by simp [intOf]; omega⟩
                  first | exact hR5.out.set c (-1)
                · have hs1 : 0 ≤ snaps ∧ snaps ≤ 1 := by
                    have := HI3.out.hsn
                    simp only [if_true, show ¬ (3 : Int) = 4 by decide, if_false] at this
                    split at this <;> omega
                  refine ⟨⟨k2 + 1, ys.set c (-1), b5, _, _, _, came + 1, _, by simp, by first | rfl | rw [p1], rfl, by omega, by omega, by omega, hs1.1, hs1.2, hb5', HI3.out, ?_, hG5.out.kept ((Chg.refl (fun k => k = gl) _).setCell (p := ⟨gl, c, none⟩) (.inl rfl) _) (fun h => hng' h.symm) (fun h => hnb5 h.symm), hC5.out.setCell (.inr hgl) _⟩, by simp [intOf]; omega⟩
                  first | exact hR5.out.set c (-1)
              · have hv0' : (ys.getD c 0 == 0) = false := by simpa using hv0
                obtain ⟨S1, S2, S3⟩ := step_msg hI.out (by omega) (.inl rfl) hc hck.out hv0
                have hbz := inv_busy S3
                have hlen := hI.out.hlen
                have HI3 := Lib.hid S3
                clear S3 hI
                generalize hyv : ys.getD c 0 = v at hcl hrg hv0 hv0' S1 S2 HI3
                by_cases p3 : v < 0 <;> by_cases p1 : 0 < came <;> by_cases p2 : came < (n : Int)
                all_goals try (exfalso; omega)
                all_goals
                  obtain ⟨a, ha⟩ : ∃ a, a = wantF 0 v came n := ⟨_, rfl⟩
                  rw [← ha] at S1 S2
                  simp only [wantF, hv0, p1, p2, p3, if_true, if_false, and_true, true_and, and_false, false_and, show ¬ (0 : Int) = 1 by decide] at ha
                  subst ha
                  obtain ⟨c', hb0⟩ : ∃ c', c' = (decide (0 < came) && decide (came < (n : Int))) := ⟨_, rfl⟩
                  rw [← hb0] at hbz
                  simp only [p1, p2, decide_true, decide_false, Bool.and_true, Bool.and_false, Bool.true_and, Bool.false_and] at hb0
                  subst hb0
                  have HA := Lib.hid S1; have HZ := Lib.hid hbz; have HY := Lib.hid hyv
                  clear S1 S2 hbz hyv
                  go_wp2_with fail
                  refine (OnceW.mark _ _).mono ?_
                  rintro e w3 ⟨rfl, C3⟩
                  have D3 := Lib.hid C3; clear C3
                  have hcl3 := (hR2.out.kept D3.out (fun h => h)).cell (i := c) (by rw [hlen]; exact hc)
                  rw [HY.out] at hcl3
                  have hG3 := Lib.hid (hG2.out.kept D3.out (fun h => h) (fun h => h))
                  have hR3 := Lib.hid (hR2.out.kept D3.out (fun h => h))
                  have hC3 := Lib.hid (hC2.out.trans D3.out)
                  have hgl3 := hR3.out.lt
                  have hg3 := hG3.out.lt1
                  have hb3 := hG3.out.lt2
                  go_wp2_with fail
                  refine (arr_msg (hG3.out.kept (S := fun _ => False) ((Chg.refl _ _).alloc _) (fun h => h) (fun h => h)) _ _ _ _ _ _ _ _ _ _ _ HA.out (by decide)).mono ?_
                  rintro e w5 ⟨rfl, G5, C5⟩
                  have hG5 := Lib.hid G5
                  have hR5 := Lib.hid ((hR3.out.kept (S := fun _ => False) ((Chg.refl _ _).alloc _) (fun h => h)).kept C5 (by rintro (h | h); exact hng' h; exact hnb' h))
                  have hC5 := Lib.hid ((hC3.out.alloc _).trans' C5 (by have := T.out; rintro i (h | h) <;> exact .inr (by omega)))
                  clear G5 C5
                  have hcl5 := hR5.out.cell (i := c) (by rw [hlen]; exact hc)
                  rw [HY.out] at hcl5
                  have hfr5 := hR5.out.free c
                  go_wp2_with fail
                  refine (busyT hG5.out _ HZ.out).mono ?_
                  rintro e w6 ⟨rfl, rfl⟩
                  go_wp2_with fail
                all_goals
                  refine ⟨⟨k2 + 1, ys.set c (max (-1) (v - 1)), b', num, kind0, L, came, snaps, by simp, rfl, rfl, by omega, q1, q2, q3, q4, hb', HI3.out, ?_, hG5.out.kept ((Chg.refl (fun k => k = gl) _).setCell (p := ⟨gl, c, none⟩) (.inl rfl) _) (fun h => hng' h.symm) (fun h => hnb' h.symm), hC5.out.setCell (.inr hgl) _⟩, by simp [intOf]; omega⟩
                  have e1 := hR5.out.set c (max (-1) (v - 1))
                  first
                    | exact e1
                    | (have e2 : max (-1) (v - 1) = v - 1 := by omega
                       rw [e2] at e1 ⊢; exact e1)
                    | (have e2 : max (-1) (v - 1) = -1 := by omega
                       rw [e2] at e1 ⊢; exact e1)
          · obtain rfl : k2 = ls.length + 6 * n := by omega
            obtain ⟨rfl, rfl, rfl⟩ := inv_end hI.out (by omega) (.inl rfl)
            go_wp2_with fail
            refine (number hG2.out).mono ?_
            rintro e w6 ⟨rfl, rfl⟩
            go_wp2_with fail
            go_ret
            exact ⟨rfl, hC2.out⟩
end Go.Proofs.Ytkfimfhkmgcnlaa.OnceL
