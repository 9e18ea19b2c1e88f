/- Written for this session by a program (mprint.py). -/
import Derived.Test.YtgbodlghggkmoaaDoorC0
import Derived.Test.YtgbodlghggkmoaaDoorC1
import Derived.Test.YtgbodlghggkmoaaDoorC2
import Derived.Test.YtgbodlghggkmoaaDoorDlI
import Derived.Test.YtgbodlghggkmoaaDoorCpt
namespace Go.Proofs.YtgbodlghggkmoaaDoor.C
open Go.RowKit Go.Proofs.YtgbodlghggkmoaaDoorW.PrintWords Go.Proofs.YtgbodlghggkmoaaDoorW.PrintLast Go.Proofs.YtgbodlghggkmoaaDoorW.PrintMore
attribute [local go_sem] max2_int min2_int max_two min_two max_three min_three max_four min_four   -- for this text's walks alone
set_option linter.unusedVariables false
set_option linter.unusedSimpArgs false

/-! ### erratalaw28_few: function 11 -/
mutual
def erratalaw28_few.l0 : Nat → List (S28) → Int → Int → Option (Bool)
  | 0, _, _, _ => none
  | k + 1, x0, x1, x5 => if x5 < (x0.length : Int) then (erratalaw28_few.j1 k x0 x1 x5 (decide (x5 ≤ x1))) else (erratalaw28_few.j1 k x0 x1 x5 false)
def erratalaw28_few.j1 : Nat → List (S28) → Int → Int → Bool → Option (Bool)
  | 0, _, _, _, _ => none
  | k + 1, x0, x1, x5, x15 => if x15 = true then (erratalaw28_few.l1 k x0 x1 x5 0) else (some (decide ((x0.length : Int) ≤ x1)))
def erratalaw28_few.l1 : Nat → List (S28) → Int → Int → Int → Option (Bool)
  | 0, _, _, _, _ => none
  | k + 1, x0, x1, x5, x6 => if 0 ≤ x5 then (if x5 < (x0.length : Int) then (if x6 < (((rd_T28 x0 x5).f1).length : Int) then (if 0 ≤ x6 then (if (((rd_T79 ((rd_T28 x0 x5).f1) x6).f2).size : Int) > 200 then (some false) else (erratalaw28_few.l1 k x0 x1 x5 (wrap64 (x6 + 1)))) else (none)) else (if (((rd_T28 x0 x5).f1).length : Int) > 10 then (some false) else ((errataref03_RightRow.f k ((rd_T28 x0 x5).f1)).bind fun t176 => (if t176 = true then (erratalaw28_few.l0 k x0 x1 (wrap64 (x5 + 1))) else (some false))))) else (none)) else (none)
end
def erratalaw28_few.f (k : Nat) (l0 : List (S28)) (a1 : Int) : Option (Bool) := erratalaw28_few.l0 k l0 a1 0
theorem erratalaw28_few.mono_l : ∀ k, (∀ y0 y1 y2, LeO (erratalaw28_few.l0 k y0 y1 y2) (erratalaw28_few.l0 (k + 1) y0 y1 y2)) ∧ (∀ y0 y1 y2 y3, LeO (erratalaw28_few.j1 k y0 y1 y2 y3) (erratalaw28_few.j1 (k + 1) y0 y1 y2 y3)) ∧ (∀ y0 y1 y2 y3, LeO (erratalaw28_few.l1 k y0 y1 y2 y3) (erratalaw28_few.l1 (k + 1) y0 y1 y2 y3))
  | 0 => ⟨fun _ _ _ r h => by simp [erratalaw28_few.l0] at h, fun _ _ _ _ r h => by simp [erratalaw28_few.j1] at h, fun _ _ _ _ r h => by simp [erratalaw28_few.l1] at h⟩
  | k + 1 => by
    obtain ⟨ih0, ih1, ih2⟩ := erratalaw28_few.mono_l k
    refine ⟨?_, ?_, ?_⟩
    · intro y0 y1 y2
      unfold erratalaw28_few.l0
      repeat' first
      | (with_reducible exact ih0 _ _ _)
      | (with_reducible exact ih1 _ _ _ _)
      | (with_reducible exact ih2 _ _ _ _)
      | (with_reducible exact errataref03_RightRow.mono _ _)
      | (with_reducible exact LeO.refl _)
      | (with_reducible exact LeO.none _)
      | (with_reducible refine LeO.ite ?_ ?_)
      | (with_reducible refine LeO.bind ?_ (fun _ => ?_))
      | exact ih0 _ _ _
      | exact ih1 _ _ _ _
      | exact ih2 _ _ _ _
      | exact errataref03_RightRow.mono _ _
      | exact LeO.none _
      | refine LeO.ite ?_ ?_
      | refine LeO.bind ?_ (fun _ => ?_)
    · intro y0 y1 y2 y3
      unfold erratalaw28_few.j1
      repeat' first
      | (with_reducible exact ih0 _ _ _)
      | (with_reducible exact ih1 _ _ _ _)
      | (with_reducible exact ih2 _ _ _ _)
      | (with_reducible exact errataref03_RightRow.mono _ _)
      | (with_reducible exact LeO.refl _)
      | (with_reducible exact LeO.none _)
      | (with_reducible refine LeO.ite ?_ ?_)
      | (with_reducible refine LeO.bind ?_ (fun _ => ?_))
      | exact ih0 _ _ _
      | exact ih1 _ _ _ _
      | exact ih2 _ _ _ _
      | exact errataref03_RightRow.mono _ _
      | exact LeO.none _
      | refine LeO.ite ?_ ?_
      | refine LeO.bind ?_ (fun _ => ?_)
    · intro y0 y1 y2 y3
      unfold erratalaw28_few.l1
      repeat' first
      | (with_reducible exact ih0 _ _ _)
      | (with_reducible exact ih1 _ _ _ _)
      | (with_reducible exact ih2 _ _ _ _)
      | (with_reducible exact errataref03_RightRow.mono _ _)
      | (with_reducible exact LeO.refl _)
      | (with_reducible exact LeO.none _)
      | (with_reducible refine LeO.ite ?_ ?_)
      | (with_reducible refine LeO.bind ?_ (fun _ => ?_))
      | exact ih0 _ _ _
      | exact ih1 _ _ _ _
      | exact ih2 _ _ _ _
      | exact errataref03_RightRow.mono _ _
      | exact LeO.none _
      | refine LeO.ite ?_ ?_
      | refine LeO.bind ?_ (fun _ => ?_)
theorem erratalaw28_few.mono : ∀ a0 a1 k, LeO (erratalaw28_few.f k a0 a1) (erratalaw28_few.f (k + 1) a0 a1) := by
  intro a0 a1 k
  obtain ⟨ih0, ih1, ih2⟩ := erratalaw28_few.mono_l k
  unfold erratalaw28_few.f
  repeat' first
      | (with_reducible exact ih0 _ _ _)
      | (with_reducible exact ih1 _ _ _ _)
      | (with_reducible exact ih2 _ _ _ _)
      | (with_reducible exact errataref03_RightRow.mono _ _)
      | (with_reducible exact LeO.refl _)
      | (with_reducible exact LeO.none _)
      | (with_reducible refine LeO.ite ?_ ?_)
      | (with_reducible refine LeO.bind ?_ (fun _ => ?_))
      | exact ih0 _ _ _
      | exact ih1 _ _ _ _
      | exact ih2 _ _ _ _
      | exact errataref03_RightRow.mono _ _
      | exact LeO.none _
      | refine LeO.ite ?_ ?_
      | refine LeO.bind ?_ (fun _ => ?_)
set_option maxHeartbeats 8000000 in
set_option maxRecDepth 100000 in
theorem erratalaw28_few.calls (k : Nat) (A0 : Option Addr) (c0 : Nat) (l0 : List (S28)) (a1 : Int) (r : Bool) (w : World) (hr0 : Kd.C k28 w A0 l0.length l0) (hc0 : l0.length ≤ c0) (h : erratalaw28_few.f k l0 a1 = some r) :
    Calls Tryd.prog 11 #[.slice A0 l0.length c0, .int .i64 a1] w fun e w' => e = .returned (.bool r) ∧ Below w.heap.size w w' := by
  have HR0 := Aside0.mk hr0
  have HC0 := Aside0.mk hc0
  clear hr0 hc0
  have HB := Aside0.mk (Below.refl w.heap.size w)
  have H : (erratalaw28_few.l0 k l0 a1 0) = some r := h
  clear h
  have H' := Aside0.mk H
  clear H
  go_enter Tryd.func11, Tryd.ntmps11
  go_wp2
  go_loopg [5] k (fun kq v5 w' => ∃ (x5_1 : Int), v5 = .int .i64 x5_1 ∧ Aside0 (erratalaw28_few.l0 kq l0 a1 x5_1 = some r) ∧ Aside0 (kq ≤ k) ∧ Aside0 (Below w.heap.size w w'))
  case atStart => exact ⟨(0), (by first | rfl | (simp; done) | (simp [*]; done)), H', ⟨Nat.le_refl _⟩, ⟨by repeat (first | (with_reducible first | exact HB.out | apply below_alloc | apply pw_below_drewN | apply below_drew1) | exact HB.out)⟩⟩
  case round =>
    clear H'
    try clear c1
    try clear p2
    obtain ⟨x5_1, rfl, HA, HK1, HB⟩ := hrel
    cases gk with
    | zero => exact absurd HA.out (by simp [erratalaw28_few.l0])
    | succ k1 =>
      have H := HA.out
      clear HA
      simp only [erratalaw28_few.l0] at H
      have HC3 := Aside0.mk H
      clear H
      go_upto_region 2 with (fail)
      go_cut [15] (fun v15 wc => ∃ (kq : Nat) (x15_2 : Bool), v15 = .bool x15_2 ∧ Aside0 (erratalaw28_few.j1 kq l0 a1 x5_1 x15_2 = some r) ∧ Aside0 (kq ≤ k1) ∧ Aside0 (Below w.heap.size w wc))
      case first =>
        have H := HC3.out
        clear HC3
        by_cases c4 : x5_1 < (l0.length : Int)
        · rw [if_pos c4] at H
          have c4b0 : decide (x5_1 < (l0.length : Int)) = true := decide_eq_true c4
          clear c4
          (first | rw [c4b0] | (simp only [i64_w, i32_w]; rw [c4b0]) | skip)
          have H' := Aside0.mk H
          clear H
          go_wp2
          go_meet
          case rel => exact ⟨_, (decide (x5_1 ≤ a1)), (by first | rfl | (simp; done) | (simp [*]; done)), H', ⟨by have := HK1.out; first | omega | exact Nat.le_refl _⟩, ⟨by repeat (first | (with_reducible first | exact HB.out | apply below_alloc | apply pw_below_drewN | apply below_drew1) | exact HB.out)⟩⟩
        · rw [if_neg c4] at H
          have c4b0 : decide (x5_1 < (l0.length : Int)) = false := decide_eq_false c4
          clear c4
          (first | rw [c4b0] | (simp only [i64_w, i32_w]; rw [c4b0]) | skip)
          have H' := Aside0.mk H
          clear H
          go_wp2
          go_meet
          case rel => exact ⟨_, (false), (by first | rfl | (simp; done) | (simp [*]; done)), H', ⟨by have := HK1.out; first | omega | exact Nat.le_refl _⟩, ⟨by repeat (first | (with_reducible first | exact HB.out | apply below_alloc | apply pw_below_drewN | apply below_drew1) | exact HB.out)⟩⟩
      case rest =>
        clear HC3
        try clear c1
        try clear p2
        try clear c4
        try clear c4b0
        try clear p2
        obtain ⟨kq, x15_2, rfl, HA, HJ2, HB⟩ := hcut
        cases kq with
        | zero => exact absurd HA.out (by simp [erratalaw28_few.j1])
        | succ kj2 =>
          have H := HA.out
          clear HA
          simp only [erratalaw28_few.j1] at H
          by_cases c5 : x15_2 = true
          · subst c5
            have H1 : (erratalaw28_few.l1 kj2 l0 a1 x5_1 0) = some r := by rw [if_pos rfl] at H; exact H
            clear H
            have H := H1
            clear H1
            have H' := Aside0.mk H
            clear H
            go_wp2
            go_loopg [6] kj2 (fun kq v6 w' => ∃ (x6_3 : Int), v6 = .int .i64 x6_3 ∧ Aside0 (erratalaw28_few.l1 kq l0 a1 x5_1 x6_3 = some r) ∧ Aside0 (kq ≤ kj2) ∧ Aside0 (Below w.heap.size w w'))
            case atStart => exact ⟨(0), (by first | rfl | (simp; done) | (simp [*]; done)), H', ⟨Nat.le_refl _⟩, ⟨by repeat (first | (with_reducible first | exact HB.out | apply below_alloc | apply pw_below_drewN | apply below_drew1) | exact HB.out)⟩⟩
            case round =>
              clear H'
              try clear c1
              try clear p2
              try clear c4
              try clear c4b0
              try clear c5
              try clear p2
              obtain ⟨x6_3, rfl, HA, HK3, HB⟩ := hrel
              cases gk with
              | zero => exact absurd HA.out (by simp [erratalaw28_few.l1])
              | succ k3 =>
                have H := HA.out
                clear HA
                simp only [erratalaw28_few.l1] at H
                by_cases c6 : 0 ≤ x5_1
                · rw [if_pos c6] at H
                  have c6b0 : decide (0 ≤ x5_1) = true := decide_eq_true c6
                  clear c6
                  by_cases c7 : x5_1 < (l0.length : Int)
                  · rw [if_pos c7] at H
                    have c7b0 : decide (x5_1 < (l0.length : Int)) = true := decide_eq_true c7
                    clear c7
                    by_cases c8 : x6_3 < (((rd_T28 l0 x5_1).f1).length : Int)
                    · rw [if_pos c8] at H
                      have c8b0 : decide (x6_3 < (((rd_T28 l0 x5_1).f1).length : Int)) = true := decide_eq_true c8
                      clear c8
                      by_cases c9 : 0 ≤ x6_3
                      · rw [if_pos c9] at H
                        have c9b0 : decide (0 ≤ x6_3) = true := decide_eq_true c9
                        clear c9
                        by_cases c10 : (((rd_T79 ((rd_T28 l0 x5_1).f1) x6_3).f2).size : Int) > 200
                        · rw [if_pos c10] at H
                          have c10b0 : decide (200 < (((rd_T79 ((rd_T28 l0 x5_1).f1) x6_3).f2).size : Int)) = true := decide_eq_true c10
                          have c10b1 : decide (200 < ((rd_T79 ((rd_T28 l0 x5_1).f1) x6_3).f2).size) = true := decide_eq_true (by omega)
                          clear c10
                          obtain rfl := Option.some.inj H
                          have p171 : 0 ≤ (x5_1 : Int) := of_decide_eq_true (by first | (with_reducible assumption) | assumption)
                          have q171 : x5_1 < (l0.length : Int) := of_decide_eq_true (by first | (with_reducible assumption) | assumption)
                          obtain ⟨ad171, A171_1, c171_1, e171, hx171_0, hx171_1, hx171_2, hl171_1, hi171_1⟩ := at_T28 HR0.out x5_1 p171 q171
                          cases e171
                          replace hx171_0 := (HB.out.cell (World.block_lt_of_cell? w _ hx171_0)).trans hx171_0
                          replace hx171_1 := (HB.out.cell (World.block_lt_of_cell? w _ hx171_1)).trans hx171_1
                          replace hx171_2 := (HB.out.cell (World.block_lt_of_cell? w _ hx171_2)).trans hx171_2
                          have HR171_1 := Aside0.mk hi171_1
                          have HC171_1 := Aside0.mk hl171_1
                          clear hi171_1 hl171_1
                          replace p171 := eq_true p171
                          replace q171 := eq_true q171
                          have p172 : 0 ≤ (x5_1 : Int) := of_decide_eq_true (by first | (with_reducible assumption) | assumption)
                          have q172 : x5_1 < (l0.length : Int) := of_decide_eq_true (by first | (with_reducible assumption) | assumption)
                          obtain ⟨ad172, A172_1, c172_1, e172, hx172_0, hx172_1, hx172_2, hl172_1, hi172_1⟩ := at_T28 HR0.out x5_1 p172 q172
                          obtain rfl : ad171 = ad172 := (by injection e172)
                          replace hx172_0 := (HB.out.cell (World.block_lt_of_cell? w _ hx172_0)).trans hx172_0
                          replace hx172_1 := (HB.out.cell (World.block_lt_of_cell? w _ hx172_1)).trans hx172_1
                          replace hx172_2 := (HB.out.cell (World.block_lt_of_cell? w _ hx172_2)).trans hx172_2
                          have HR172_1 := Aside0.mk hi172_1
                          have HC172_1 := Aside0.mk hl172_1
                          clear hi172_1 hl172_1
                          replace p172 := eq_true p172
                          replace q172 := eq_true q172
                          have ea_ := Option.some.inj (hx171_1.symm.trans hx172_1)
                          injection ea_ with ea_ en_ ec_
                          subst ea_
                          subst ec_
                          clear en_
                          have p173 : 0 ≤ (x6_3 : Int) := of_decide_eq_true (by first | (with_reducible assumption) | assumption)
                          have q173 : x6_3 < (((rd_T28 l0 x5_1).f1).length : Int) := of_decide_eq_true (by first | (with_reducible assumption) | assumption)
                          obtain ⟨ad173, e173, hx173_0, hx173_1, hx173_2⟩ := at_T79 HR172_1.out x6_3 p173 q173
                          cases e173
                          replace hx173_0 := (HB.out.cell (World.block_lt_of_cell? w _ hx173_0)).trans hx173_0
                          replace hx173_1 := (HB.out.cell (World.block_lt_of_cell? w _ hx173_1)).trans hx173_1
                          replace hx173_2 := (HB.out.cell (World.block_lt_of_cell? w _ hx173_2)).trans hx173_2
                          replace p173 := eq_true p173
                          replace q173 := eq_true q173
                          go_wp2
                          go_ret
                          exact ⟨by first | rfl | (simp [errW_none, errW_some] <;> rfl) | (simp [*, errW_none, errW_some] <;> rfl), by repeat (first | (with_reducible first | exact HB.out | apply below_alloc | apply pw_below_drewN | apply below_drew1) | exact HB.out)⟩
                        · rw [if_neg c10] at H
                          have c10b0 : decide (200 < (((rd_T79 ((rd_T28 l0 x5_1).f1) x6_3).f2).size : Int)) = false := decide_eq_false c10
                          have c10b1 : decide (200 < ((rd_T79 ((rd_T28 l0 x5_1).f1) x6_3).f2).size) = false := decide_eq_false (by omega)
                          clear c10
                          have H' := Aside0.mk H
                          clear H
                          have p171 : 0 ≤ (x5_1 : Int) := of_decide_eq_true (by first | (with_reducible assumption) | assumption)
                          have q171 : x5_1 < (l0.length : Int) := of_decide_eq_true (by first | (with_reducible assumption) | assumption)
                          obtain ⟨ad171, A171_1, c171_1, e171, hx171_0, hx171_1, hx171_2, hl171_1, hi171_1⟩ := at_T28 HR0.out x5_1 p171 q171
                          cases e171
                          replace hx171_0 := (HB.out.cell (World.block_lt_of_cell? w _ hx171_0)).trans hx171_0
                          replace hx171_1 := (HB.out.cell (World.block_lt_of_cell? w _ hx171_1)).trans hx171_1
                          replace hx171_2 := (HB.out.cell (World.block_lt_of_cell? w _ hx171_2)).trans hx171_2
                          have HR171_1 := Aside0.mk hi171_1
                          have HC171_1 := Aside0.mk hl171_1
                          clear hi171_1 hl171_1
                          replace p171 := eq_true p171
                          replace q171 := eq_true q171
                          have p172 : 0 ≤ (x5_1 : Int) := of_decide_eq_true (by first | (with_reducible assumption) | assumption)
                          have q172 : x5_1 < (l0.length : Int) := of_decide_eq_true (by first | (with_reducible assumption) | assumption)
                          obtain ⟨ad172, A172_1, c172_1, e172, hx172_0, hx172_1, hx172_2, hl172_1, hi172_1⟩ := at_T28 HR0.out x5_1 p172 q172
                          obtain rfl : ad171 = ad172 := (by injection e172)
                          replace hx172_0 := (HB.out.cell (World.block_lt_of_cell? w _ hx172_0)).trans hx172_0
                          replace hx172_1 := (HB.out.cell (World.block_lt_of_cell? w _ hx172_1)).trans hx172_1
                          replace hx172_2 := (HB.out.cell (World.block_lt_of_cell? w _ hx172_2)).trans hx172_2
                          have HR172_1 := Aside0.mk hi172_1
                          have HC172_1 := Aside0.mk hl172_1
                          clear hi172_1 hl172_1
                          replace p172 := eq_true p172
                          replace q172 := eq_true q172
                          have ea_ := Option.some.inj (hx171_1.symm.trans hx172_1)
                          injection ea_ with ea_ en_ ec_
                          subst ea_
                          subst ec_
                          clear en_
                          have p173 : 0 ≤ (x6_3 : Int) := of_decide_eq_true (by first | (with_reducible assumption) | assumption)
                          have q173 : x6_3 < (((rd_T28 l0 x5_1).f1).length : Int) := of_decide_eq_true (by first | (with_reducible assumption) | assumption)
                          obtain ⟨ad173, e173, hx173_0, hx173_1, hx173_2⟩ := at_T79 HR172_1.out x6_3 p173 q173
                          cases e173
                          replace hx173_0 := (HB.out.cell (World.block_lt_of_cell? w _ hx173_0)).trans hx173_0
                          replace hx173_1 := (HB.out.cell (World.block_lt_of_cell? w _ hx173_1)).trans hx173_1
                          replace hx173_2 := (HB.out.cell (World.block_lt_of_cell? w _ hx173_2)).trans hx173_2
                          replace p173 := eq_true p173
                          replace q173 := eq_true q173
                          go_wp2
                          go_roundg k3
                          case measure => have := HK1.out; have := HJ2.out; have := HK3.out; omega
                          case rel => exact ⟨(wrap64 (x6_3 + 1)), (by first | rfl | (simp; done) | (simp [*]; done)), H', ⟨by have := HK1.out; have := HJ2.out; have := HK3.out; omega⟩, ⟨by repeat (first | (with_reducible first | exact HB.out | apply below_alloc | apply pw_below_drewN | apply below_drew1) | exact HB.out)⟩⟩
                      · rw [if_neg c9] at H
                        exact absurd H (by simp)
                    · rw [if_neg c8] at H
                      have c8b0 : decide (x6_3 < (((rd_T28 l0 x5_1).f1).length : Int)) = false := decide_eq_false c8
                      clear c8
                      by_cases c11 : (((rd_T28 l0 x5_1).f1).length : Int) > 10
                      · rw [if_pos c11] at H
                        have c11b0 : decide (10 < (((rd_T28 l0 x5_1).f1).length : Int)) = true := decide_eq_true c11
                        have c11b1 : decide (10 < ((rd_T28 l0 x5_1).f1).length) = true := decide_eq_true (by omega)
                        clear c11
                        obtain rfl := Option.some.inj H
                        have p171 : 0 ≤ (x5_1 : Int) := of_decide_eq_true (by first | (with_reducible assumption) | assumption)
                        have q171 : x5_1 < (l0.length : Int) := of_decide_eq_true (by first | (with_reducible assumption) | assumption)
                        obtain ⟨ad171, A171_1, c171_1, e171, hx171_0, hx171_1, hx171_2, hl171_1, hi171_1⟩ := at_T28 HR0.out x5_1 p171 q171
                        cases e171
                        replace hx171_0 := (HB.out.cell (World.block_lt_of_cell? w _ hx171_0)).trans hx171_0
                        replace hx171_1 := (HB.out.cell (World.block_lt_of_cell? w _ hx171_1)).trans hx171_1
                        replace hx171_2 := (HB.out.cell (World.block_lt_of_cell? w _ hx171_2)).trans hx171_2
                        have HR171_1 := Aside0.mk hi171_1
                        have HC171_1 := Aside0.mk hl171_1
                        clear hi171_1 hl171_1
                        replace p171 := eq_true p171
                        replace q171 := eq_true q171
                        have p174 : 0 ≤ (x5_1 : Int) := of_decide_eq_true (by first | (with_reducible assumption) | assumption)
                        have q174 : x5_1 < (l0.length : Int) := of_decide_eq_true (by first | (with_reducible assumption) | assumption)
                        obtain ⟨ad174, A174_1, c174_1, e174, hx174_0, hx174_1, hx174_2, hl174_1, hi174_1⟩ := at_T28 HR0.out x5_1 p174 q174
                        obtain rfl : ad171 = ad174 := (by injection e174)
                        replace hx174_0 := (HB.out.cell (World.block_lt_of_cell? w _ hx174_0)).trans hx174_0
                        replace hx174_1 := (HB.out.cell (World.block_lt_of_cell? w _ hx174_1)).trans hx174_1
                        replace hx174_2 := (HB.out.cell (World.block_lt_of_cell? w _ hx174_2)).trans hx174_2
                        have HR174_1 := Aside0.mk hi174_1
                        have HC174_1 := Aside0.mk hl174_1
                        clear hi174_1 hl174_1
                        replace p174 := eq_true p174
                        replace q174 := eq_true q174
                        have ea_ := Option.some.inj (hx171_1.symm.trans hx174_1)
                        injection ea_ with ea_ en_ ec_
                        subst ea_
                        subst ec_
                        clear en_
                        go_wp2
                        go_ret
                        exact ⟨by first | rfl | (simp [errW_none, errW_some] <;> rfl) | (simp [*, errW_none, errW_some] <;> rfl), by repeat (first | (with_reducible first | exact HB.out | apply below_alloc | apply pw_below_drewN | apply below_drew1) | exact HB.out)⟩
                      · rw [if_neg c11] at H
                        have c11b0 : decide (10 < (((rd_T28 l0 x5_1).f1).length : Int)) = false := decide_eq_false c11
                        have c11b1 : decide (10 < ((rd_T28 l0 x5_1).f1).length) = false := decide_eq_false (by omega)
                        clear c11
                        replace H := Option.bind_eq_some_iff.mp H
                        obtain ⟨t176, A120, H⟩ := H
                        replace H : (if t176 = true then (erratalaw28_few.l0 k3 l0 a1 (wrap64 (x5_1 + 1))) else (some false)) = some r := H
                        have A12 := Aside0.mk A120
                        clear A120
                        by_cases c13 : t176 = true
                        · subst c13
                          have H1 : (erratalaw28_few.l0 k3 l0 a1 (wrap64 (x5_1 + 1))) = some r := by rw [if_pos rfl] at H; exact H
                          clear H
                          have H := H1
                          clear H1
                          have H' := Aside0.mk H
                          clear H
                          have p171 : 0 ≤ (x5_1 : Int) := of_decide_eq_true (by first | (with_reducible assumption) | assumption)
                          have q171 : x5_1 < (l0.length : Int) := of_decide_eq_true (by first | (with_reducible assumption) | assumption)
                          obtain ⟨ad171, A171_1, c171_1, e171, hx171_0, hx171_1, hx171_2, hl171_1, hi171_1⟩ := at_T28 HR0.out x5_1 p171 q171
                          cases e171
                          replace hx171_0 := (HB.out.cell (World.block_lt_of_cell? w _ hx171_0)).trans hx171_0
                          replace hx171_1 := (HB.out.cell (World.block_lt_of_cell? w _ hx171_1)).trans hx171_1
                          replace hx171_2 := (HB.out.cell (World.block_lt_of_cell? w _ hx171_2)).trans hx171_2
                          have HR171_1 := Aside0.mk hi171_1
                          have HC171_1 := Aside0.mk hl171_1
                          clear hi171_1 hl171_1
                          replace p171 := eq_true p171
                          replace q171 := eq_true q171
                          have p174 : 0 ≤ (x5_1 : Int) := of_decide_eq_true (by first | (with_reducible assumption) | assumption)
                          have q174 : x5_1 < (l0.length : Int) := of_decide_eq_true (by first | (with_reducible assumption) | assumption)
                          obtain ⟨ad174, A174_1, c174_1, e174, hx174_0, hx174_1, hx174_2, hl174_1, hi174_1⟩ := at_T28 HR0.out x5_1 p174 q174
                          obtain rfl : ad171 = ad174 := (by injection e174)
                          replace hx174_0 := (HB.out.cell (World.block_lt_of_cell? w _ hx174_0)).trans hx174_0
                          replace hx174_1 := (HB.out.cell (World.block_lt_of_cell? w _ hx174_1)).trans hx174_1
                          replace hx174_2 := (HB.out.cell (World.block_lt_of_cell? w _ hx174_2)).trans hx174_2
                          have HR174_1 := Aside0.mk hi174_1
                          have HC174_1 := Aside0.mk hl174_1
                          clear hi174_1 hl174_1
                          replace p174 := eq_true p174
                          replace q174 := eq_true q174
                          have ea_ := Option.some.inj (hx171_1.symm.trans hx174_1)
                          injection ea_ with ea_ en_ ec_
                          subst ea_
                          subst ec_
                          clear en_
                          have p175 : 0 ≤ (x5_1 : Int) := of_decide_eq_true (by first | (with_reducible assumption) | assumption)
                          have q175 : x5_1 < (l0.length : Int) := of_decide_eq_true (by first | (with_reducible assumption) | assumption)
                          obtain ⟨ad175, A175_1, c175_1, e175, hx175_0, hx175_1, hx175_2, hl175_1, hi175_1⟩ := at_T28 HR0.out x5_1 p175 q175
                          obtain rfl : ad171 = ad175 := (by injection e175)
                          replace hx175_0 := (HB.out.cell (World.block_lt_of_cell? w _ hx175_0)).trans hx175_0
                          replace hx175_1 := (HB.out.cell (World.block_lt_of_cell? w _ hx175_1)).trans hx175_1
                          replace hx175_2 := (HB.out.cell (World.block_lt_of_cell? w _ hx175_2)).trans hx175_2
                          have HR175_1 := Aside0.mk hi175_1
                          have HC175_1 := Aside0.mk hl175_1
                          clear hi175_1 hl175_1
                          replace p175 := eq_true p175
                          replace q175 := eq_true q175
                          have ea_ := Option.some.inj (hx171_1.symm.trans hx175_1)
                          injection ea_ with ea_ en_ ec_
                          subst ea_
                          subst ec_
                          clear en_
                          go_wp2_with (first | (go_at_call 65; (with_reducible refine (errataref03_RightRow.calls k3 _ _ ((rd_T28 l0 x5_1).f1) true _ ?side1 ?side2 A12.out).mono ?_); (case side1 => exact Cmp.cb (Kd.C_below HR175_1.out HB.out)); (case side2 => exact HC175_1.out); rintro e w14 ⟨rfl, hb⟩; have n0_ := Aside0.mk (below_step (Cmp.bq HB.out) hb); clear HB; have HB := n0_; clear n0_; (try clear hb); (try clear hb2); (try clear hk); (try clear hi)))
                          go_roundg k3
                          case measure => have := HK1.out; have := HJ2.out; have := HK3.out; omega
                          case rel => exact ⟨(wrap64 (x5_1 + 1)), (by first | rfl | (simp; done) | (simp [*]; done)), H', ⟨by have := HK1.out; have := HJ2.out; have := HK3.out; omega⟩, ⟨by repeat (first | (with_reducible first | exact HB.out | apply below_alloc | apply pw_below_drewN | apply below_drew1) | exact HB.out)⟩⟩
                        · replace c13 := Bool.eq_false_iff.mpr c13
                          subst c13
                          have H1 : (some false) = some r := by rw [if_neg (show ¬ (false = true) by decide)] at H; exact H
                          clear H
                          have H := H1
                          clear H1
                          obtain rfl := Option.some.inj H
                          have p171 : 0 ≤ (x5_1 : Int) := of_decide_eq_true (by first | (with_reducible assumption) | assumption)
                          have q171 : x5_1 < (l0.length : Int) := of_decide_eq_true (by first | (with_reducible assumption) | assumption)
                          obtain ⟨ad171, A171_1, c171_1, e171, hx171_0, hx171_1, hx171_2, hl171_1, hi171_1⟩ := at_T28 HR0.out x5_1 p171 q171
                          cases e171
                          replace hx171_0 := (HB.out.cell (World.block_lt_of_cell? w _ hx171_0)).trans hx171_0
                          replace hx171_1 := (HB.out.cell (World.block_lt_of_cell? w _ hx171_1)).trans hx171_1
                          replace hx171_2 := (HB.out.cell (World.block_lt_of_cell? w _ hx171_2)).trans hx171_2
                          have HR171_1 := Aside0.mk hi171_1
                          have HC171_1 := Aside0.mk hl171_1
                          clear hi171_1 hl171_1
                          replace p171 := eq_true p171
                          replace q171 := eq_true q171
                          have p174 : 0 ≤ (x5_1 : Int) := of_decide_eq_true (by first | (with_reducible assumption) | assumption)
                          have q174 : x5_1 < (l0.length : Int) := of_decide_eq_true (by first | (with_reducible assumption) | assumption)
                          obtain ⟨ad174, A174_1, c174_1, e174, hx174_0, hx174_1, hx174_2, hl174_1, hi174_1⟩ := at_T28 HR0.out x5_1 p174 q174
                          obtain rfl : ad171 = ad174 := (by injection e174)
                          replace hx174_0 := (HB.out.cell (World.block_lt_of_cell? w _ hx174_0)).trans hx174_0
                          replace hx174_1 := (HB.out.cell (World.block_lt_of_cell? w _ hx174_1)).trans hx174_1
                          replace hx174_2 := (HB.out.cell (World.block_lt_of_cell? w _ hx174_2)).trans hx174_2
                          have HR174_1 := Aside0.mk hi174_1
                          have HC174_1 := Aside0.mk hl174_1
                          clear hi174_1 hl174_1
                          replace p174 := eq_true p174
                          replace q174 := eq_true q174
                          have ea_ := Option.some.inj (hx171_1.symm.trans hx174_1)
                          injection ea_ with ea_ en_ ec_
                          subst ea_
                          subst ec_
                          clear en_
                          have p175 : 0 ≤ (x5_1 : Int) := of_decide_eq_true (by first | (with_reducible assumption) | assumption)
                          have q175 : x5_1 < (l0.length : Int) := of_decide_eq_true (by first | (with_reducible assumption) | assumption)
                          obtain ⟨ad175, A175_1, c175_1, e175, hx175_0, hx175_1, hx175_2, hl175_1, hi175_1⟩ := at_T28 HR0.out x5_1 p175 q175
                          obtain rfl : ad171 = ad175 := (by injection e175)
                          replace hx175_0 := (HB.out.cell (World.block_lt_of_cell? w _ hx175_0)).trans hx175_0
                          replace hx175_1 := (HB.out.cell (World.block_lt_of_cell? w _ hx175_1)).trans hx175_1
                          replace hx175_2 := (HB.out.cell (World.block_lt_of_cell? w _ hx175_2)).trans hx175_2
                          have HR175_1 := Aside0.mk hi175_1
                          have HC175_1 := Aside0.mk hl175_1
                          clear hi175_1 hl175_1
                          replace p175 := eq_true p175
                          replace q175 := eq_true q175
                          have ea_ := Option.some.inj (hx171_1.symm.trans hx175_1)
                          injection ea_ with ea_ en_ ec_
                          subst ea_
                          subst ec_
                          clear en_
                          go_wp2_with (first | (go_at_call 65; (with_reducible refine (errataref03_RightRow.calls k3 _ _ ((rd_T28 l0 x5_1).f1) false _ ?side1 ?side2 A12.out).mono ?_); (case side1 => exact Cmp.cb (Kd.C_below HR175_1.out HB.out)); (case side2 => exact HC175_1.out); rintro e w15 ⟨rfl, hb⟩; have n0_ := Aside0.mk (below_step (Cmp.bq HB.out) hb); clear HB; have HB := n0_; clear n0_; (try clear hb); (try clear hb2); (try clear hk); (try clear hi)))
                          go_ret
                          exact ⟨by first | rfl | (simp [errW_none, errW_some] <;> rfl) | (simp [*, errW_none, errW_some] <;> rfl), by repeat (first | (with_reducible first | exact HB.out | apply below_alloc | apply pw_below_drewN | apply below_drew1) | exact HB.out)⟩
                  · rw [if_neg c7] at H
                    exact absurd H (by simp)
                · rw [if_neg c6] at H
                  exact absurd H (by simp)
          · replace c5 := Bool.eq_false_iff.mpr c5
            subst c5
            have H1 : (some (decide ((l0.length : Int) ≤ a1))) = some r := by rw [if_neg (show ¬ (false = true) by decide)] at H; exact H
            clear H
            have H := H1
            clear H1
            obtain rfl := Option.some.inj H
            go_wp2
            go_ret
            exact ⟨by first | rfl | (simp [errW_none, errW_some] <;> rfl) | (simp [*, errW_none, errW_some] <;> rfl), by repeat (first | (with_reducible first | exact HB.out | apply below_alloc | apply pw_below_drewN | apply below_drew1) | exact HB.out)⟩

/-! ### delta_Times: function 20 -/
section
open Go Go.RowKit Go.Proofs.YtgbodlghggkmoaaDoorW.PrintWords Go.Proofs.YtgbodlghggkmoaaDoorW.PrintLast Go.Proofs.YtgbodlghggkmoaaDoorW.PrintMore Go.Proofs.YtgbodlghggkmoaaDoor.Or
open Go.Proofs Go.Proofs.YtgbodlghggkmoaaDoor.Srt
def delta_Times.f (l0 : List (S28)) : Option (List Int) := if OkD l0 then some (Lib.compact ((consD l0).map (·.f0))) else none
theorem infoI : (Tryd.prog.info? 3).map (fun i => (i.zero, i.size, i.bytes)) = some (some (.int .i64 0), 1, 8) := by kernel_rfl
theorem compact_len (zs : List Int) : (Lib.compact zs).length ≤ zs.length := by
  unfold Lib.compact Lib.compactUpTo
  rw [List.length_map]
  exact Nat.le_trans (List.length_filter_le _ _) (by simp)
theorem reps_int {w : World} : ∀ {xs : List Int} {inner : List Value}, Reps ((Kd.int .i64).K w) 1 xs inner → inner = xs.map (Value.int .i64) := by
  intro xs inner h
  apply List.ext_getElem?
  intro j
  rcases Nat.lt_or_ge j xs.length with hj | hj
  · have h2 := h.2 j _ (List.getElem?_eq_getElem hj)
    have h3 : (inner.drop (j * 1)).take 1 = [.int .i64 xs[j]] := h2
    have h4 := congrArg (·[0]?) h3
    simp only [List.getElem?_take, List.getElem?_drop] at h4
    simp at h4
    rw [h4]; simp [hj]
  · have : inner.length ≤ j := by have := h.1; omega
    rw [List.getElem?_eq_none this, List.getElem?_eq_none (by simpa using hj)]
/-- slices.Compact of a row of numbers of the call's own. -/
theorem compact_own (base : Nat) (v : Value) (xs : List Int) (w0 w : World) (h : OwnRow ((Kd.int .i64).K w0) 3 1 w base v xs) (hn : xs.length ≤ 1099511627776) (hb : base ≤ w.heap.size) :
    Calls Tryd.prog 75 #[v] w fun e w' => ∃ v', e = .returned v' ∧ Kd.V (Kd.int .i64) 3 w' base (fun k => base ≤ k) v' (Lib.compact xs) ∧ Below base w w' := by
  obtain ⟨inner, ho, hr⟩ := h
  have hi := reps_int hr
  subst hi
  rcases Nat.eq_zero_or_pos xs.length with h0 | h0
  · have hx : xs = [] := List.length_eq_zero_iff.1 h0
    subst hx
    have hc : Lib.compact ([] : List Int) = [] := rfl
    rcases ho.2 with ⟨rfl, _⟩ | ⟨g, cap, cur, rfl, hg, hh, hcap, hmax, hsz, htk⟩
    · refine (Go.Proofs.Tryd.slices_Compact_int_empty none 0 w).mono ?_
      rintro e w' ⟨rfl, rfl⟩
      exact ⟨_, rfl, Kd.R_V (Kd.R_nil _ _ _ base _), Below.refl _ _⟩
    · refine (Go.Proofs.Tryd.slices_Compact_int_empty (some ⟨g, 0, none⟩) cap w).mono ?_
      rintro e w' ⟨rfl, rfl⟩
      exact ⟨_, rfl, ⟨_, cap, rfl, Nat.zero_le _, fun W _ => ⟨rfl, Nat.zero_le _, fun h => absurd h (Nat.lt_irrefl 0)⟩⟩, Below.refl _ _⟩
  · rcases ho.2 with ⟨_, hz⟩ | ⟨g, cap, cur, rfl, hg, hh, hcap, hmax, hsz, htk⟩
    · omega
    · have hcell : ∀ j, j < xs.toArray.size → w.cell? ⟨g, 0 + j, none⟩ = some (Value.int .i64 xs.toArray[j]!) ∧ w.frozen? ⟨g, 0 + j, none⟩ = false := by
        intro j hj
        have hj' : j < xs.length := by simpa using hj
        have h3 : cur.toList[j]? = some (.int .i64 xs[j]) := by
          have := congrArg (·[j]?) htk
          simp only [List.getElem?_take, List.getElem?_map, List.getElem?_eq_getElem hj', Option.map_some] at this
          rwa [if_pos (by omega)] at this
        have h4 : xs.toArray[j]! = xs[j] := by rw [getElem!_pos _ j hj]; simp
        constructor
        · unfold World.cell?
          simp only [hh, Nat.zero_add]
          rw [h4, ← h3]; simp
        · unfold World.frozen?; simp [hh]
      have hl := compact_len xs
      refine (Go.Proofs.Tryd.slices_Compact_int g 0 cap xs w hcell (by omega) hcap).mono ?_
      rintro e w' ⟨rfl, q, rfl⟩
      generalize hd : (Lib.compact xs ++ List.replicate (xs.length - (Lib.compact xs).length) 0).toArray = d
      have hds : d.size = xs.toArray.size := by rw [← hd]; simp; omega
      have hbel : Below base w (Sort.putRow (Value.int .i64) (Sort.ahead w q) g 0 d) := by
        refine ⟨rfl, rfl, rfl, by simp [Sort.ahead], fun k hk => ?_⟩
        simp only [Sort.putRow, Sort.mapBlock, Sort.ahead]
        rw [Array.getElem?_modify, if_neg (by omega)]
      refine ⟨_, rfl, ⟨_, cap, rfl, by omega, ?_⟩, hbel⟩
      intro W hW
      have hhold := Sort.holds_putRow (Value.int .i64) (Sort.ahead w q) g 0 xs.toArray d (Sort.holds_ahead _ w q g 0 _ hcell) hds
      have hblk : W.heap[g]? = (Sort.putRow (Value.int .i64) (Sort.ahead w q) g 0 d).heap[g]? := hW g hg (by rw [Sort.size_putRow]; exact (Array.getElem?_eq_some_iff.1 hh).1)
      refine ⟨rfl, by have := hl; omega, fun hpos => ⟨⟨g, 0, none⟩, rfl, fun j x hj => ⟨[.int .i64 x], rfl, rfl, fun i u hu => ?_⟩⟩⟩
      have hjl : j < (Lib.compact xs).length := (List.getElem?_eq_some_iff.1 hj).1
      obtain rfl : i = 0 := by
        have := (List.getElem?_eq_some_iff.1 hu).1
        simpa using this
      obtain rfl : u = .int .i64 x := by simpa using hu.symm
      have hjd : j < d.size := by rw [hds]; simp; omega
      have h5 := (hhold j hjd).1
      have h6 : d[j]! = x := by
        rw [getElem!_pos _ j hjd]
        have : d[j]? = some x := by
          rw [← hd]
          simp only [List.getElem?_toArray]
          rw [List.getElem?_append_left hjl, hj]
        exact (Array.getElem?_eq_some_iff.1 this).2
      rw [h6] at h5
      have ea : (⟨g, 0, none⟩ : Addr).add (j * (Kd.int .i64).sz + 0) = ⟨g, 0 + j, none⟩ := by
        rw [show (Kd.int .i64).sz = 1 from rfl]
        simp only [Addr.add]
        by_cases hj0 : j = 0 <;> simp [hj0]
      rw [ea]
      unfold World.cell? at h5 ⊢
      simp only at h5 ⊢
      rw [hblk]
      exact h5
set_option maxHeartbeats 8000000 in
set_option maxRecDepth 1000000 in
theorem delta_Times.calls (A0 : Option Addr) (c0 : Nat) (l0 : List (S28)) (r : List Int) (w : World) (hr0 : Kd.C k28 w A0 l0.length l0) (hc0 : l0.length ≤ c0) (h : delta_Times.f l0 = some r) :
    Calls Tryd.prog 20 #[.slice A0 l0.length c0] w fun e w' => ∃ v0_ : Value, e = .returned (v0_) ∧ Kd.V (Kd.int .i64) 3 w' w.heap.size (fun k_ => (w.heap.size ≤ k_)) v0_ r ∧ Below w.heap.size w w' := by
  unfold delta_Times.f at h
  split at h
  rotate_left
  · cases h
  rename_i hok
  have HRR := Aside0.mk (Option.some.inj h)
  have HC := Aside0.mk (delta_Consolidate.calls A0 c0 l0 (consD l0) w hr0 hc0 (if_pos hok))
  have hlen : (consD l0).length ≤ 1099511627776 := Nat.le_trans (cons_length l0) hok.1
  clear hr0 hc0 h hok
  generalize consD l0 = xs at *
  go_enter Tryd.func20, Tryd.ntmps20
  go_wp2_with fail
  refine HC.out.mono ?_
  rintro e w1 ⟨v1, rfl, ⟨A1, c1, rfl, h1, h2⟩, hb1⟩
  have HR1 := Aside0.mk (Kd.F_now h2)
  have HN := Aside0.mk (show OwnRow ((Kd.int .i64).K w1) 3 1 w1 w1.heap.size (.slice none 0 0) ([] : List Int) from OwnRow.none_ _ _ _ _ _)
  have HB1 := Aside0.mk hb1
  have HQ := Aside0.mk (Below.refl w1.heap.size w1)
  clear h1 h2 hb1 HC
  go_wp2
  go_loopg [3, 9] xs.length (fun kq v3 v9 wr => ∃ (i : Nat), v9 = .int .i64 i ∧ i + kq = xs.length ∧ Aside0 (OwnRow ((Kd.int .i64).K w1) 3 1 wr w1.heap.size v3 ((xs.take i).map (·.f0))) ∧ Aside0 (Below w1.heap.size w1 wr))
  case atStart => exact ⟨0, rfl, by omega, ⟨by simpa using HN.out⟩, HQ⟩
  case round =>
    clear HN HQ
    obtain ⟨i, rfl, hi, HN, HB⟩ := hrel
    have HR := Aside0.mk (Kd.C_below HR1.out HB.out)
    by_cases hlt : i < xs.length
    · have hz : (i : Int) < (xs.length : Int) := by omega
      obtain ⟨ad, A, c, rfl, x0, x1, x2, x3, x4⟩ := at_T28 HR.out i (by omega) (by omega)
      have hx : rd_T28 xs i = xs[i] := by simp [rd_T28, List.getD_eq_getElem?_getD, hlt]
      have HX := Aside0.mk hx
      clear hx x3 x4
      generalize rd_T28 xs i = x at *
      simp only [Int.toNat_natCast] at x0 x1 x2
      have q0 := World.block_lt_of_cell? wr _ x0
      obtain ⟨W, hW⟩ : ∃ W, W = wr.alloc (.cells #[.int .i64 x.f0, .slice A x.f1.length c, .int .i64 x.f2] 28) := ⟨_, rfl⟩
      have hba : Below wr.heap.size wr W := by rw [hW]; exact below_alloc (Below.refl wr.heap.size wr) _
      have hc0 : W.cell? ⟨wr.heap.size, 0, none⟩ = some (.int .i64 x.f0) := by rw [hW]; unfold World.cell?; show (match (wr.heap.push _)[wr.heap.size]? with | some (Obj.cells c _ _) => _ | _ => _) = _; simp
      have HWW := Aside0.mk hW
      have HBA := Aside0.mk hba
      have HCC := Aside0.mk hc0
      have HN2 := Aside0.mk (OwnRow.below HN.out hba)
      have HB2 := Aside0.mk (below_to HB.out hba HB.out.size)
      clear hW hba hc0
      go_upto_region 5 with (fail)
      rw [← HWW.out]
      have e0 := HCC.out
      have HLen : ((xs.take i).map (·.f0)).length + 1 ≤ 1099511627776 := by rw [List.length_map, List.length_take]; omega
      clear x0 x1 x2 q0
      go_wp2_with ((with_reducible refine gate_builtin (b := .append) (xs := #[.tmp 13, .tmp 16]) rfl ?_); (try (refine gate_guard (by rfl) ?_; dsimp only)); at_builtin; refine OwnRow.append (R := (Kd.int .i64).K w1) (w0 := w1) w1.heap.size rfl (.tmp 13) (.tmp 16) 35 3 (.int .i64 0) 1 8 rfl Tryd.underlying35 infoI rfl (by decide) (by omega) u3 ((xs.take i).map (·.f0)) x.f0 [.int .i64 x.f0] rfl rfl rfl rfl ?a1 HN2.out HB2.out HB2.out.size ?aL ?_; (case a1 => (intro u hu; simp at hu; subst hu; rfl)); (case aL => omega); rintro nv w5 hR5 hB5 hG5 _; have HR5 := Aside0.mk hR5; have HB5 := Aside0.mk hB5; have HG5 := Aside0.mk hG5; clear hR5 hB5 hG5)
      obtain ⟨k1, rfl⟩ : ∃ k1, gk = k1 + 1 := ⟨gk - 1, by omega⟩
      go_roundg k1
      case measure => omega
      case rel =>
        refine ⟨i + 1, by go_num, by omega, ⟨?_⟩, HB5⟩
        · have e : (xs.take (i + 1)).map (·.f0) = (xs.take i).map (·.f0) ++ [x.f0] := by
            rw [List.take_add_one, List.getElem?_eq_getElem hlt, List.map_append, HX.out]; rfl
          rw [e]; exact HR5.out
    · have hz : ¬ (i : Int) < (xs.length : Int) := by omega
      have HE : Aside0 (OwnRow ((Kd.int .i64).K w1) 3 1 wr w1.heap.size u3 (xs.map (·.f0))) := ⟨by have := HN.out; rwa [List.take_of_length_le (by omega)] at this⟩
      have HCP := Aside0.mk (compact_own w1.heap.size u3 (xs.map (·.f0)) w1 wr HE.out (by rw [List.length_map]; exact hlen) HB.out.size)
      clear HN HE HR
      go_wp2_with fail
      refine HCP.out.mono ?_
      rintro e w3 ⟨v3, rfl, hV, hb3⟩
      have HV := Aside0.mk hV
      have HB3 := Aside0.mk (below_to HB1.out (HB.out.trans hb3) HB1.out.size)
      clear hV hb3
      go_wp2
      go_ret
      rw [← HRR.out]
      exact ⟨_, rfl, Kd.V_mono HV.out (fun k hk => Nat.le_trans HB1.out.size hk), HB3.out⟩

end

/-! ### delta_Multiset: function 21 -/
section
open Go Go.RowKit Go.Proofs.YtgbodlghggkmoaaDoorW.PrintWords Go.Proofs.YtgbodlghggkmoaaDoorW.PrintLast Go.Proofs.YtgbodlghggkmoaaDoorW.PrintMore Go.Proofs.YtgbodlghggkmoaaDoor.Or
open Go.Proofs Go.Proofs.YtgbodlghggkmoaaDoor.Srt
def delta_Multiset.f (l0 : List (S28)) : Option Bool := if OkD l0 then some (!(consD l0).any (fun x => decide (x.f2 < 0))) else none
theorem idx_any (p : S28 → Bool) (l : List S28) : decide (0 ≤ idx p l) = l.any p := by
  have h : (l.findIdx p < l.length) ↔ l.any p = true := by
    rw [List.findIdx_lt_length, List.any_eq_true]
  unfold idx
  by_cases hl : l.findIdx p < l.length
  · rw [if_pos hl, h.1 hl]; simp
  · rw [if_neg hl]
    have : l.any p = false := by
      cases e : l.any p with
      | false => rfl
      | true => exact absurd (h.2 e) hl
    rw [this]; rfl
set_option maxHeartbeats 8000000 in
set_option maxRecDepth 1000000 in
theorem containsFunc {g : Nat} {cb : Array Value} {p : S28 → Bool} {w0 : World} (hp : PredOk g cb p w0) (A0 : Option Addr) (c0 : Nat) (l0 : List S28) (w : World) (hw : Below w0.heap.size w0 w) (hr0 : Kd.C k28 w A0 l0.length l0) :
    Calls Tryd.prog 76 #[.slice A0 l0.length c0, .func (.func g) #[] cb] w fun e w' => e = .returned (.bool (l0.any p)) ∧ Below w.heap.size w w' := by
  have HC := Aside0.mk (indexFunc hp A0 c0 l0 w hw hr0)
  have HA := Aside0.mk (idx_any p l0)
  generalize idx p l0 = n at *
  clear hp hr0 hw
  go_enter Tryd.func76, Tryd.ntmps76
  go_wp2_with fail
  refine HC.out.mono ?_
  rintro e w1 ⟨rfl, hb⟩
  have HB := Aside0.mk hb
  clear hb HC
  go_wp2
  go_ret
  exact ⟨Hk.ret_b HA.out, HB.out⟩
set_option maxHeartbeats 8000000 in
set_option maxRecDepth 1000000 in
theorem delta_Multiset.calls (A0 : Option Addr) (c0 : Nat) (l0 : List (S28)) (r : Bool) (w : World) (hr0 : Kd.C k28 w A0 l0.length l0) (hc0 : l0.length ≤ c0) (h : delta_Multiset.f l0 = some r) :
    Calls Tryd.prog 21 #[.slice A0 l0.length c0] w fun e w' => e = .returned (.bool r) ∧ Below w.heap.size w w' := by
  unfold delta_Multiset.f at h
  split at h
  rotate_left
  · cases h
  rename_i hok
  have HRR := Aside0.mk (Option.some.inj h)
  have HC := Aside0.mk (delta_Consolidate.calls A0 c0 l0 (consD l0) w hr0 hc0 (if_pos hok))
  clear hr0 hc0 h hok
  generalize consD l0 = xs at *
  go_enter Tryd.func21, Tryd.ntmps21
  go_wp2_with fail
  refine HC.out.mono ?_
  rintro e w1 ⟨v1, rfl, ⟨A1, c1, rfl, h1, h2⟩, hb1⟩
  have HX := Aside0.mk (containsFunc (multiPred w1) A1 c1 xs w1 (Below.refl _ _) (Kd.F_now h2))
  have HB1 := Aside0.mk hb1
  clear h1 h2 hb1 HC
  generalize xs.any (fun x => decide (x.f2 < 0)) = bb at *
  go_wp2_with fail
  refine HX.out.mono ?_
  rintro e w2 ⟨rfl, hb2⟩
  have HB2 := Aside0.mk (below_to HB1.out hb2 HB1.out.size)
  clear hb2 HX
  go_wp2
  go_ret
  exact ⟨Hk.ret_b HRR.out, HB2.out⟩

end

end Go.Proofs.YtgbodlghggkmoaaDoor.C
