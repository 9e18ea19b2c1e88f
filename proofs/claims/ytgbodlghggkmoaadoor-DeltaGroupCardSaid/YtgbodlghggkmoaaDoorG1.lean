/- Written for this session by a program (mprint.py). -/
import Derived.Test.YtgbodlghggkmoaaDoorG0
import Derived.Test.YtgbodlghggkmoaaDoorSh
import Derived.Test.YtgbodlghggkmoaaDoorHk
import Derived.Test.YtgbodlghggkmoaaDoorDlC
import Derived.Test.YtgbodlghggkmoaaDoorDlA
import Derived.Test.YtgbodlghggkmoaaDoorDlI
import Derived.Test.YtgbodlghggkmoaaDoorSrtF
namespace Go.Proofs.YtgbodlghggkmoaaDoor.G
open Go.RowKit Go.Proofs.YtgbodlghggkmoaaDoorW.PrintWords Go.Proofs.YtgbodlghggkmoaaDoorW.PrintLast Go.Proofs.YtgbodlghggkmoaaDoorW.PrintMore
attribute [local go_sem] max2_int min2_int max_two min_two max_three min_three max_four min_four   -- for this text's walks alone
set_option linter.unusedVariables false
set_option linter.unusedSimpArgs false

/-! ### cmp_Or_int: function 105 -/
def cmp_Or_int.l0 : Nat → Int → List Int → Int → Int → Option (Int)
  | 0, _, _, _, _ => none
  | k + 1, x3, x6, x7, x8 => if x8 < x7 then (if 0 ≤ x8 then (if x8 < (x6.length : Int) then (if (rd x6 x8) = x3 then (cmp_Or_int.l0 k x3 x6 x7 (wrap64 (x8 + 1))) else (some (rd x6 x8))) else (none)) else (none)) else (some x3)
def cmp_Or_int.f (k : Nat) (l0 : List Int) : Option (Int) := cmp_Or_int.l0 k 0 l0 (l0.length : Int) 0
theorem cmp_Or_int.mono_l : ∀ k, (∀ y0 y1 y2 y3, LeO (cmp_Or_int.l0 k y0 y1 y2 y3) (cmp_Or_int.l0 (k + 1) y0 y1 y2 y3))
  | 0 => fun _ _ _ _ r h => by simp [cmp_Or_int.l0] at h
  | k + 1 => by
    have ih0 := cmp_Or_int.mono_l k
    · intro y0 y1 y2 y3
      unfold cmp_Or_int.l0
      repeat' first
      | (with_reducible exact ih0 _ _ _ _)
      | (with_reducible exact LeO.refl _)
      | (with_reducible exact LeO.none _)
      | (with_reducible refine LeO.ite ?_ ?_)
      | (with_reducible refine LeO.bind ?_ (fun _ => ?_))
      | exact ih0 _ _ _ _
      | exact LeO.none _
      | refine LeO.ite ?_ ?_
      | refine LeO.bind ?_ (fun _ => ?_)
theorem cmp_Or_int.mono : ∀ a0 k, LeO (cmp_Or_int.f k a0) (cmp_Or_int.f (k + 1) a0) := by
  intro a0 k
  have ih0 := cmp_Or_int.mono_l k
  unfold cmp_Or_int.f
  repeat' first
      | (with_reducible exact ih0 _ _ _ _)
      | (with_reducible exact LeO.refl _)
      | (with_reducible exact LeO.none _)
      | (with_reducible refine LeO.ite ?_ ?_)
      | (with_reducible refine LeO.bind ?_ (fun _ => ?_))
      | exact ih0 _ _ _ _
      | exact LeO.none _
      | refine LeO.ite ?_ ?_
      | refine LeO.bind ?_ (fun _ => ?_)
set_option maxHeartbeats 8000000 in
set_option maxRecDepth 100000 in
theorem cmp_Or_int.calls (k : Nat) (A0 : Option Addr) (c0 : Nat) (l0 : List Int) (r : Int) (w : World) (hr0 : Kd.C (Kd.int .i64) w A0 l0.length l0) (hc0 : l0.length ≤ c0) (h : cmp_Or_int.f k l0 = some r) :
    Calls Tryd.prog 105 #[.slice A0 l0.length c0] w fun e w' => e = .returned (.int .i64 r) ∧ Drawn0 w w' := by
  have HR0 := Aside0.mk hr0
  have HC0 := Aside0.mk hc0
  clear hr0 hc0
  have H : (cmp_Or_int.l0 k 0 l0 (l0.length : Int) 0) = some r := h
  clear h
  have H' := Aside0.mk H
  clear H
  go_enter Tryd.func105, Tryd.ntmps105
  go_wp2
  go_loopg [8] k (fun kq v8 w' => ∃ (x8_1 : Int), v8 = .int .i64 x8_1 ∧ Aside0 (cmp_Or_int.l0 kq 0 l0 (l0.length : Int) x8_1 = some r) ∧ Aside0 (kq ≤ k) ∧ Drawn0 w w')
  case atStart => exact ⟨(0), (by first | rfl | (simp; done) | (simp [*]; done)), H', ⟨Nat.le_refl _⟩, by repeat (first | exact Drawn0.refl _ | apply Drawn0.step)⟩
  case round =>
    clear H'
    try clear c1
    obtain ⟨x8_1, rfl, HA, HK1, ⟨m1, rfl⟩⟩ := hrel
    cases gk with
    | zero => exact absurd HA.out (by simp [cmp_Or_int.l0])
    | succ k1 =>
      have H := HA.out
      clear HA
      simp only [cmp_Or_int.l0] at H
      by_cases c2 : x8_1 < (l0.length : Int)
      · rw [if_pos c2] at H
        have c2b0 : decide (x8_1 < (l0.length : Int)) = true := decide_eq_true c2
        clear c2
        by_cases c3 : 0 ≤ x8_1
        · rw [if_pos c3] at H
          have c3b0 : decide (0 ≤ x8_1) = true := decide_eq_true c3
          clear c3
          by_cases c4 : x8_1 < (l0.length : Int)
          · rw [if_pos c4] at H
            have c4b0 : decide (x8_1 < (l0.length : Int)) = true := decide_eq_true c4
            clear c4
            by_cases c5 : (rd l0 x8_1) = 0
            · rw [if_pos c5] at H
              have c5b0 : ((rd l0 x8_1) == 0) = true := beq_iff_eq.mpr c5
              have c5b1 : ((rd l0 x8_1) != 0) = false := bne_eq_false_iff_eq.mpr c5
              clear c5
              have H' := Aside0.mk H
              clear H
              have p101 : 0 ≤ (x8_1 : Int) := of_decide_eq_true (by first | (with_reducible assumption) | assumption)
              have q101 : x8_1 < (l0.length : Int) := of_decide_eq_true (by first | (with_reducible assumption) | assumption)
              obtain ⟨ad101, e101, hx101_0⟩ := Kd.at_int HR0.out x8_1 p101 q101
              cases e101
              replace p101 := eq_true p101
              replace q101 := eq_true q101
              go_wp2
              go_roundg k1
              case measure => have := HK1.out; omega
              case rel => exact ⟨(wrap64 (x8_1 + 1)), (by first | rfl | (simp; done) | (simp [*]; done)), H', ⟨by have := HK1.out; omega⟩, by repeat (first | exact Drawn0.refl _ | apply Drawn0.step)⟩
            · rw [if_neg c5] at H
              have c5b0 : ((rd l0 x8_1) == 0) = false := beq_eq_false_iff_ne.mpr c5
              have c5b1 : ((rd l0 x8_1) != 0) = true := bne_iff_ne.mpr c5
              obtain rfl := Option.some.inj H
              have p101 : 0 ≤ (x8_1 : Int) := of_decide_eq_true (by first | (with_reducible assumption) | assumption)
              have q101 : x8_1 < (l0.length : Int) := of_decide_eq_true (by first | (with_reducible assumption) | assumption)
              obtain ⟨ad101, e101, hx101_0⟩ := Kd.at_int HR0.out x8_1 p101 q101
              cases e101
              replace p101 := eq_true p101
              replace q101 := eq_true q101
              go_wp2
              go_ret
              exact ⟨by first | rfl | (simp; done) | (simp [*]; done), by repeat (first | exact Drawn0.refl _ | apply Drawn0.step)⟩
          · rw [if_neg c4] at H
            exact absurd H (by simp)
        · rw [if_neg c3] at H
          exact absurd H (by simp)
      · rw [if_neg c2] at H
        have c2b0 : decide (x8_1 < (l0.length : Int)) = false := decide_eq_false c2
        clear c2
        obtain rfl := Option.some.inj H
        go_wp2
        go_ret
        exact ⟨by first | rfl | (simp; done) | (simp [*]; done), by repeat (first | exact Drawn0.refl _ | apply Drawn0.step)⟩

/-! ### cmp_isNaN_int: function 127 -/
def cmp_isNaN_int.f (a0 : Int) : Option (Bool) := some (a0 != a0)
set_option maxHeartbeats 8000000 in
set_option maxRecDepth 100000 in
theorem cmp_isNaN_int.calls (a0 : Int) (r : Bool) (w : World) (h : cmp_isNaN_int.f a0 = some r) :
    Calls Tryd.prog 127 #[.int .i64 a0] w fun e w' => e = .returned (.bool r) ∧ Drawn0 w w' := by
  have H : (some (a0 != a0)) = some r := h
  clear h
  obtain rfl := Option.some.inj H
  go_enter Tryd.func127, Tryd.ntmps127
  go_wp2
  go_ret
  exact ⟨by first | rfl | (simp; done) | (simp [*]; done), by repeat (first | exact Drawn0.refl _ | apply Drawn0.step)⟩

/-! ### cmp_Compare_int: function 106 -/
def cmp_Compare_int.f (a0 : Int) (a1 : Int) : Option (Int) := (cmp_isNaN_int.f a0).bind fun t102 => ((cmp_isNaN_int.f a1).bind fun t103 => (if t102 = true then (if t103 = true then (some 0) else (some (-1))) else (if t103 = true then (some 1) else (if a0 < a1 then (some (-1)) else (if a0 > a1 then (some 1) else (some 0))))))
set_option maxHeartbeats 8000000 in
set_option maxRecDepth 100000 in
theorem cmp_Compare_int.calls (a0 : Int) (a1 : Int) (r : Int) (w : World) (h : cmp_Compare_int.f a0 a1 = some r) :
    Calls Tryd.prog 106 #[.int .i64 a0, .int .i64 a1] w fun e w' => e = .returned (.int .i64 r) ∧ Drawn0 w w' := by
  have H : ((cmp_isNaN_int.f a0).bind fun t102 => ((cmp_isNaN_int.f a1).bind fun t103 => (if t102 = true then (if t103 = true then (some 0) else (some (-1))) else (if t103 = true then (some 1) else (if a0 < a1 then (some (-1)) else (if a0 > a1 then (some 1) else (some 0))))))) = some r := h
  clear h
  replace H := Option.bind_eq_some_iff.mp H
  obtain ⟨t102, A30, H⟩ := H
  replace H : ((cmp_isNaN_int.f a1).bind fun t103 => (if t102 = true then (if t103 = true then (some 0) else (some (-1))) else (if t103 = true then (some 1) else (if a0 < a1 then (some (-1)) else (if a0 > a1 then (some 1) else (some 0)))))) = some r := H
  have A3 := Aside0.mk A30
  clear A30
  replace H := Option.bind_eq_some_iff.mp H
  obtain ⟨t103, A40, H⟩ := H
  replace H : (if t102 = true then (if t103 = true then (some 0) else (some (-1))) else (if t103 = true then (some 1) else (if a0 < a1 then (some (-1)) else (if a0 > a1 then (some 1) else (some 0))))) = some r := H
  have A4 := Aside0.mk A40
  clear A40
  by_cases c5 : t102 = true
  · subst c5
    have H1 : (if t103 = true then (some 0) else (some (-1))) = some r := by rw [if_pos rfl] at H; exact H
    clear H
    have H := H1
    clear H1
    by_cases c6 : t103 = true
    · subst c6
      have H1 : (some 0) = some r := by rw [if_pos rfl] at H; exact H
      clear H
      have H := H1
      clear H1
      obtain rfl := Option.some.inj H
      go_enter Tryd.func106, Tryd.ntmps106
      go_wp2_with (first | ((with_reducible refine gate_callee (f := 127) rfl ?_); refine goesL_ (some 8) rfl rfl Tryd.func127 (by kernel_rfl) rfl #[.int .i64 a0] rfl Cmp.au ?_; (with_reducible refine (cmp_isNaN_int.calls a0 true _ A3.out).mono ?_); rintro e w' ⟨rfl, ⟨nd, rfl⟩⟩; refine ⟨_, rfl, ?_⟩) | ((with_reducible refine gate_callee (f := 127) rfl ?_); refine goesL_ (some 10) rfl rfl Tryd.func127 (by kernel_rfl) rfl #[.int .i64 a1] rfl Cmp.au ?_; (with_reducible refine (cmp_isNaN_int.calls a1 true _ A4.out).mono ?_); rintro e w' ⟨rfl, ⟨nd, rfl⟩⟩; refine ⟨_, rfl, ?_⟩))
      go_ret
      exact ⟨by first | rfl | (simp; done) | (simp [*]; done), by repeat (first | exact Drawn0.refl _ | apply Drawn0.step)⟩
    · replace c6 := Bool.eq_false_iff.mpr c6
      subst c6
      have H1 : (some (-1)) = some r := by rw [if_neg (show ¬ (false = true) by decide)] at H; exact H
      clear H
      have H := H1
      clear H1
      obtain rfl := Option.some.inj H
      go_enter Tryd.func106, Tryd.ntmps106
      go_wp2_with (first | ((with_reducible refine gate_callee (f := 127) rfl ?_); refine goesL_ (some 8) rfl rfl Tryd.func127 (by kernel_rfl) rfl #[.int .i64 a0] rfl Cmp.au ?_; (with_reducible refine (cmp_isNaN_int.calls a0 true _ A3.out).mono ?_); rintro e w' ⟨rfl, ⟨nd, rfl⟩⟩; refine ⟨_, rfl, ?_⟩) | ((with_reducible refine gate_callee (f := 127) rfl ?_); refine goesL_ (some 10) rfl rfl Tryd.func127 (by kernel_rfl) rfl #[.int .i64 a1] rfl Cmp.au ?_; (with_reducible refine (cmp_isNaN_int.calls a1 false _ A4.out).mono ?_); rintro e w' ⟨rfl, ⟨nd, rfl⟩⟩; refine ⟨_, rfl, ?_⟩))
      go_ret
      exact ⟨by first | rfl | (simp; done) | (simp [*]; done), by repeat (first | exact Drawn0.refl _ | apply Drawn0.step)⟩
  · replace c5 := Bool.eq_false_iff.mpr c5
    subst c5
    have H1 : (if t103 = true then (some 1) else (if a0 < a1 then (some (-1)) else (if a0 > a1 then (some 1) else (some 0)))) = some r := by rw [if_neg (show ¬ (false = true) by decide)] at H; exact H
    clear H
    have H := H1
    clear H1
    by_cases c7 : t103 = true
    · subst c7
      have H1 : (some 1) = some r := by rw [if_pos rfl] at H; exact H
      clear H
      have H := H1
      clear H1
      obtain rfl := Option.some.inj H
      go_enter Tryd.func106, Tryd.ntmps106
      go_wp2_with (first | ((with_reducible refine gate_callee (f := 127) rfl ?_); refine goesL_ (some 8) rfl rfl Tryd.func127 (by kernel_rfl) rfl #[.int .i64 a0] rfl Cmp.au ?_; (with_reducible refine (cmp_isNaN_int.calls a0 false _ A3.out).mono ?_); rintro e w' ⟨rfl, ⟨nd, rfl⟩⟩; refine ⟨_, rfl, ?_⟩) | ((with_reducible refine gate_callee (f := 127) rfl ?_); refine goesL_ (some 10) rfl rfl Tryd.func127 (by kernel_rfl) rfl #[.int .i64 a1] rfl Cmp.au ?_; (with_reducible refine (cmp_isNaN_int.calls a1 true _ A4.out).mono ?_); rintro e w' ⟨rfl, ⟨nd, rfl⟩⟩; refine ⟨_, rfl, ?_⟩))
      go_ret
      exact ⟨by first | rfl | (simp; done) | (simp [*]; done), by repeat (first | exact Drawn0.refl _ | apply Drawn0.step)⟩
    · replace c7 := Bool.eq_false_iff.mpr c7
      subst c7
      have H1 : (if a0 < a1 then (some (-1)) else (if a0 > a1 then (some 1) else (some 0))) = some r := by rw [if_neg (show ¬ (false = true) by decide)] at H; exact H
      clear H
      have H := H1
      clear H1
      by_cases c8 : a0 < a1
      · rw [if_pos c8] at H
        have c8b0 : decide (a0 < a1) = true := decide_eq_true c8
        clear c8
        obtain rfl := Option.some.inj H
        go_enter Tryd.func106, Tryd.ntmps106
        go_wp2_with (first | ((with_reducible refine gate_callee (f := 127) rfl ?_); refine goesL_ (some 8) rfl rfl Tryd.func127 (by kernel_rfl) rfl #[.int .i64 a0] rfl Cmp.au ?_; (with_reducible refine (cmp_isNaN_int.calls a0 false _ A3.out).mono ?_); rintro e w' ⟨rfl, ⟨nd, rfl⟩⟩; refine ⟨_, rfl, ?_⟩) | ((with_reducible refine gate_callee (f := 127) rfl ?_); refine goesL_ (some 10) rfl rfl Tryd.func127 (by kernel_rfl) rfl #[.int .i64 a1] rfl Cmp.au ?_; (with_reducible refine (cmp_isNaN_int.calls a1 false _ A4.out).mono ?_); rintro e w' ⟨rfl, ⟨nd, rfl⟩⟩; refine ⟨_, rfl, ?_⟩))
        go_ret
        exact ⟨by first | rfl | (simp; done) | (simp [*]; done), by repeat (first | exact Drawn0.refl _ | apply Drawn0.step)⟩
      · rw [if_neg c8] at H
        have c8b0 : decide (a0 < a1) = false := decide_eq_false c8
        clear c8
        by_cases c9 : a0 > a1
        · rw [if_pos c9] at H
          have c9b0 : decide (a1 < a0) = true := decide_eq_true c9
          clear c9
          obtain rfl := Option.some.inj H
          go_enter Tryd.func106, Tryd.ntmps106
          go_wp2_with (first | ((with_reducible refine gate_callee (f := 127) rfl ?_); refine goesL_ (some 8) rfl rfl Tryd.func127 (by kernel_rfl) rfl #[.int .i64 a0] rfl Cmp.au ?_; (with_reducible refine (cmp_isNaN_int.calls a0 false _ A3.out).mono ?_); rintro e w' ⟨rfl, ⟨nd, rfl⟩⟩; refine ⟨_, rfl, ?_⟩) | ((with_reducible refine gate_callee (f := 127) rfl ?_); refine goesL_ (some 10) rfl rfl Tryd.func127 (by kernel_rfl) rfl #[.int .i64 a1] rfl Cmp.au ?_; (with_reducible refine (cmp_isNaN_int.calls a1 false _ A4.out).mono ?_); rintro e w' ⟨rfl, ⟨nd, rfl⟩⟩; refine ⟨_, rfl, ?_⟩))
          go_ret
          exact ⟨by first | rfl | (simp; done) | (simp [*]; done), by repeat (first | exact Drawn0.refl _ | apply Drawn0.step)⟩
        · rw [if_neg c9] at H
          have c9b0 : decide (a1 < a0) = false := decide_eq_false c9
          clear c9
          obtain rfl := Option.some.inj H
          go_enter Tryd.func106, Tryd.ntmps106
          go_wp2_with (first | ((with_reducible refine gate_callee (f := 127) rfl ?_); refine goesL_ (some 8) rfl rfl Tryd.func127 (by kernel_rfl) rfl #[.int .i64 a0] rfl Cmp.au ?_; (with_reducible refine (cmp_isNaN_int.calls a0 false _ A3.out).mono ?_); rintro e w' ⟨rfl, ⟨nd, rfl⟩⟩; refine ⟨_, rfl, ?_⟩) | ((with_reducible refine gate_callee (f := 127) rfl ?_); refine goesL_ (some 10) rfl rfl Tryd.func127 (by kernel_rfl) rfl #[.int .i64 a1] rfl Cmp.au ?_; (with_reducible refine (cmp_isNaN_int.calls a1 false _ A4.out).mono ?_); rintro e w' ⟨rfl, ⟨nd, rfl⟩⟩; refine ⟨_, rfl, ?_⟩))
          go_ret
          exact ⟨by first | rfl | (simp; done) | (simp [*]; done), by repeat (first | exact Drawn0.refl _ | apply Drawn0.step)⟩

/-! ### strings_Compare: function 139 -/
section
def strings_Compare.f (a0 : ByteArray) (a1 : ByteArray) : Option (Int) := some (Lib.compareBytes a0.data.toList a1.data.toList)
theorem strings_Compare.calls (a0 : ByteArray) (a1 : ByteArray) (r : Int) (w : World) (h : strings_Compare.f a0 a1 = some r) :
    Calls Tryd.prog 139 #[.string a0, .string a1] w fun e w' => e = .returned (.int .i64 r) ∧ Below w.heap.size w w' := by
  refine (Tryd.strings_Compare a0 a1 w).mono ?_
  rintro e w' ⟨rfl, rfl⟩
  obtain rfl := Option.some.inj h
  exact ⟨rfl, Below.refl _ _⟩

end

/-! ### value_Compare: function 129 -/
def value_Compare.f (k : Nat) (a0_0 : Int) (a0_1 : Int) (a0_2 : ByteArray) (a1_0 : Int) (a1_1 : Int) (a1_2 : ByteArray) : Option (Int) := (cmp_Compare_int.f a0_0 a1_0).bind fun t106 => ((cmp_Compare_int.f a0_1 a1_1).bind fun t107 => ((strings_Compare.f a0_2 a1_2).bind fun t108 => ((cmp_Or_int.f k (([t106, t107, t108] : List Int))).bind fun t112 => (some t112))))
theorem value_Compare.mono : ∀ a0 a1 a2 a3 a4 a5 k, LeO (value_Compare.f k a0 a1 a2 a3 a4 a5) (value_Compare.f (k + 1) a0 a1 a2 a3 a4 a5) := by
  intro a0 a1 a2 a3 a4 a5 k
  unfold value_Compare.f
  repeat' first
      | (with_reducible exact cmp_Or_int.mono _ _)
      | (with_reducible exact LeO.refl _)
      | (with_reducible exact LeO.none _)
      | (with_reducible refine LeO.ite ?_ ?_)
      | (with_reducible refine LeO.bind ?_ (fun _ => ?_))
      | exact cmp_Or_int.mono _ _
      | exact LeO.none _
      | refine LeO.ite ?_ ?_
      | refine LeO.bind ?_ (fun _ => ?_)
def value_Compare.T1 : Bool × List (List Nat × List Nat) := (true, [([], []), ([0], [0]), ([], []), ([2], [2]), ([1, 3], [1, 3]), ([], []), ([5], [5]), ([], []), ([7], [7]), ([6, 8, 4], [6, 8]), ([], []), ([10], [10]), ([], []), ([12], [12]), ([11, 13, 9], [11, 13]), ([4, 9, 14], [4, 9, 14]), ([15, 14], [15]), ([16, 16, 0, 1, 2, 3, 4, 5, 6, 7, 8, 9, 10, 11, 12, 13, 14, 15, 16], [16])])
def value_Compare.B1 : List Nat := [0, 1, 0, 4, 15, 0, 32, 0, 128, 511, 0, 1024, 0, 4096, 16383, 32767, 65535, 131071]
theorem value_Compare.tab1 : rtab .any (opsOf Tryd.f129 1) = value_Compare.T1 := by kernel_rfl
theorem value_Compare.bits1 : waitsOk value_Compare.T1.2 value_Compare.B1 = true := by kernel_rfl
set_option maxHeartbeats 8000000 in
set_option maxRecDepth 100000 in
theorem value_Compare.calls (k : Nat) (a0_0 : Int) (a0_1 : Int) (a0_2 : ByteArray) (a1_0 : Int) (a1_1 : Int) (a1_2 : ByteArray) (r : Int) (w : World) (h : value_Compare.f k a0_0 a0_1 a0_2 a1_0 a1_1 a1_2 = some r) :
    Calls Tryd.prog 129 #[.agg #[.int .i64 a0_0, .int .i64 a0_1, .string a0_2], .agg #[.int .i64 a1_0, .int .i64 a1_1, .string a1_2]] w fun e w' => e = .returned (.int .i64 r) ∧ Below w.heap.size w w' := by
  have hu79 := Tryd.underlying79
  have HB := Aside0.mk (Below.refl w.heap.size w)
  have H : ((cmp_Compare_int.f a0_0 a1_0).bind fun t106 => ((cmp_Compare_int.f a0_1 a1_1).bind fun t107 => ((strings_Compare.f a0_2 a1_2).bind fun t108 => ((cmp_Or_int.f k (([t106, t107, t108] : List Int))).bind fun t112 => (some t112))))) = some r := h
  clear h
  replace H := Option.bind_eq_some_iff.mp H
  obtain ⟨t106, A30, H⟩ := H
  replace H : ((cmp_Compare_int.f a0_1 a1_1).bind fun t107 => ((strings_Compare.f a0_2 a1_2).bind fun t108 => ((cmp_Or_int.f k (([t106, t107, t108] : List Int))).bind fun t112 => (some t112)))) = some r := H
  have A3 := Aside0.mk A30
  clear A30
  replace H := Option.bind_eq_some_iff.mp H
  obtain ⟨t107, A40, H⟩ := H
  replace H : ((strings_Compare.f a0_2 a1_2).bind fun t108 => ((cmp_Or_int.f k (([t106, t107, t108] : List Int))).bind fun t112 => (some t112))) = some r := H
  have A4 := Aside0.mk A40
  clear A40
  replace H := Option.bind_eq_some_iff.mp H
  obtain ⟨t108, A50, H⟩ := H
  replace H : ((cmp_Or_int.f k (([t106, t107, t108] : List Int))).bind fun t112 => (some t112)) = some r := H
  have A5 := Aside0.mk A50
  clear A50
  obtain ⟨y109, hy109⟩ : ∃ y_ : List Int, y_ = (([t106, t107, t108] : List Int)) := ⟨_, rfl⟩
  replace H : ((cmp_Or_int.f k y109).bind fun t112 => (some t112)) = some r := by first | (rw [hy109]; with_reducible exact H) | (have H2_ := (Option.bind_some _ _).symm.trans H; rw [hy109]; with_reducible exact H2_) | (have H2_ := (Option.bind_some _ _).symm.trans H; with_reducible exact H2_) | with_reducible exact H | (rw [hy109]; exact H) | exact H
  have Ny109 := Aside0.mk hy109
  clear hy109
  replace H := Option.bind_eq_some_iff.mp H
  obtain ⟨t112, A60, H⟩ := H
  replace H : (some t112) = some r := H
  have A6 := Aside0.mk A60
  clear A60
  obtain rfl := Option.some.inj H
  go_enter Tryd.func129, Tryd.ntmps129
  try go_wp2_with (first | ((with_reducible refine gate_dst (N := 2) rfl ?_); refine box_event ?hg (N := 2) ?hd (cs := #[.int .i64 a0_0, .int .i64 a0_1, .string a0_2]) (t := 79) ?hr ?_; (case hd => rfl); (case hg => rfl); (case hr => first | (go_simp; done) | (go_simp; rfl)); intro gb104 hg w7 hbox hb; have n0_ := Aside0.mk (below_step (Cmp.bq HB.out) hb); have n1_ := Aside0.mk (hbox); have n2_ := Aside0.mk ((by rw [hg]; exact (below_size (Cmp.bq HB.out)) : w.heap.size ≤ gb104)); have n3_ := Aside0.mk ((by rw [hg]; exact (below_size (Cmp.bq HB.out)) : w.heap.size ≤ gb104)); clear HB; have HB := n0_; have BK104 := n1_; have GW104 := n2_; have GE104 := n3_; clear n0_ n1_ n2_ n3_; clear hb hbox hg) | ((with_reducible refine gate_dst (N := 3) rfl ?_); refine box_event ?hg (N := 3) ?hd (cs := #[.int .i64 a1_0, .int .i64 a1_1, .string a1_2]) (t := 79) ?hr ?_; (case hd => rfl); (case hg => rfl); (case hr => first | (go_simp; done) | (go_simp; rfl)); intro gb105 hg w8 hbox hb; have n0_ := Aside0.mk (blk_below (g := gb104) (o := .cells #[.int .i64 a0_0, .int .i64 a0_1, .string a0_2] 79 (0, 0)) (by (with_reducible repeat (first | refine blk_drewN ?_ _ | refine blk_drew ?_ | refine blk_alloc ?_ _)); exact BK104.out) hb); have n1_ := Aside0.mk (below_step (by repeat (first | (with_reducible first | exact HB.out | apply below_alloc | apply pw_below_drewN | apply below_drew1 | refine below_set ?_ GE104.out) | exact HB.out)) hb); have n2_ := Aside0.mk (hbox); have n3_ := Aside0.mk ((by rw [hg]; exact (below_size (by repeat (first | (with_reducible first | exact HB.out | apply below_alloc | apply pw_below_drewN | apply below_drew1 | refine below_set ?_ GE104.out) | exact HB.out))) : w.heap.size ≤ gb105)); have n4_ := Aside0.mk ((by rw [hg]; exact (below_size (by repeat (first | (with_reducible first | exact HB.out | apply below_alloc | apply pw_below_drewN | apply below_drew1 | refine below_set ?_ GE104.out) | exact HB.out))) : w.heap.size ≤ gb105)); have n5_ := Aside0.mk ((by rw [hg]; exact Nat.ne_of_lt (blk_lt (g := gb104) (o := .cells #[.int .i64 a0_0, .int .i64 a0_1, .string a0_2] 79 (0, 0)) (by (with_reducible repeat (first | refine blk_drewN ?_ _ | refine blk_drew ?_ | refine blk_alloc ?_ _)); exact BK104.out)) : gb104 ≠ gb105)); have n6_ := Aside0.mk ((by rw [hg]; exact Nat.ne_of_gt (blk_lt (g := gb104) (o := .cells #[.int .i64 a0_0, .int .i64 a0_1, .string a0_2] 79 (0, 0)) (by (with_reducible repeat (first | refine blk_drewN ?_ _ | refine blk_drew ?_ | refine blk_alloc ?_ _)); exact BK104.out)) : gb105 ≠ gb104)); clear BK104; clear HB; have BK104 := n0_; have HB := n1_; have BK105 := n2_; have GW105 := n3_; have GE105 := n4_; have NB104_105 := n5_; have NB105_104 := n6_; clear n0_ n1_ n2_ n3_ n4_ n5_ n6_; clear hb hbox hg))
  have n0_ := Aside0.mk (blk_drew BK104.out)
  have n1_ := Aside0.mk (blk_drew BK105.out)
  have n2_ := Aside0.mk (below_drew1 HB.out)
  clear BK104
  clear BK105
  clear HB
  have BK104 := n0_
  have BK105 := n1_
  have HB := n2_
  clear n0_ n1_ n2_
  refine start_ (n := 18) (S := fun w' => w'.cell? ⟨gb104, 0, none⟩ = some (.int .i64 a0_0) ∧ w'.cell? ⟨gb104, 1, none⟩ = some (.int .i64 a0_1) ∧ w'.cell? ⟨gb104, 2, none⟩ = some (.string a0_2) ∧ w'.cell? ⟨gb105, 0, none⟩ = some (.int .i64 a1_0) ∧ w'.cell? ⟨gb105, 1, none⟩ = some (.int .i64 a1_1) ∧ w'.cell? ⟨gb105, 2, none⟩ = some (.string a1_2)) (ds := []) #[false, false, false, false, false, false, false, false, false, false, false, false, false, false, false, false, false, false] (by kernel_rfl) rfl rfl ⟨(blk_cell BK104.out 0).trans rfl, (blk_cell BK104.out 1).trans rfl, (blk_cell BK104.out 2).trans rfl, (blk_cell BK105.out 0).trans rfl, (blk_cell BK105.out 1).trans rfl, (blk_cell BK105.out 2).trans rfl⟩ (fun hHeld => ?_); refine with_tabW value_Compare.tab1 value_Compare.bits1 (fun HT_ HW_ => ?_)
  generalize w8.drew = w9 at BK104 BK105 HB hHeld ⊢
  refine pure_ (i := 0) (N := some 5) (v := ?_) (a' := ?_) #[true, false, false, false, false, false, false, false, false, false, false, false, false, false, false, false, false, false] rfl rfl (any_of HT_.out (by kernel_rfl)) (fun _ _ _ h => h) (Or.inl ⟨by rfl, ?_⟩) ?_ ?_
  rotate_left
  · intro w'
    go_simp
    with_reducible rfl
  rotate_left
  · simp only [Act.put, List.setIfInBounds_toArray, List.set_cons_zero, List.set_cons_succ, i64_w, i32_w]
    rfl
  refine pure_ (i := 2) (N := some 7) (v := ?_) (a' := ?_) #[true, false, true, false, false, false, false, false, false, false, false, false, false, false, false, false, false, false] rfl rfl (any_of HT_.out (by kernel_rfl)) (fun _ _ _ h => h) (Or.inl ⟨by rfl, ?_⟩) ?_ ?_
  rotate_left
  · intro w'
    go_simp
    with_reducible rfl
  rotate_left
  · simp only [Act.put, List.setIfInBounds_toArray, List.set_cons_zero, List.set_cons_succ, i64_w, i32_w]
    rfl
  refine pure_ (i := 5) (N := some 10) (v := ?_) (a' := ?_) #[true, false, true, false, false, true, false, false, false, false, false, false, false, false, false, false, false, false] rfl rfl (any_of HT_.out (by kernel_rfl)) (fun _ _ _ h => h) (Or.inl ⟨by rfl, ?_⟩) ?_ ?_
  rotate_left
  · intro w'
    go_simp
    with_reducible rfl
  rotate_left
  · simp only [Act.put, List.setIfInBounds_toArray, List.set_cons_zero, List.set_cons_succ, i64_w, i32_w]
    rfl
  refine pure_ (i := 7) (N := some 12) (v := ?_) (a' := ?_) #[true, false, true, false, false, true, false, true, false, false, false, false, false, false, false, false, false, false] rfl rfl (any_of HT_.out (by kernel_rfl)) (fun _ _ _ h => h) (Or.inl ⟨by rfl, ?_⟩) ?_ ?_
  rotate_left
  · intro w'
    go_simp
    with_reducible rfl
  rotate_left
  · simp only [Act.put, List.setIfInBounds_toArray, List.set_cons_zero, List.set_cons_succ, i64_w, i32_w]
    rfl
  refine pure_ (i := 10) (N := some 15) (v := ?_) (a' := ?_) #[true, false, true, false, false, true, false, true, false, false, true, false, false, false, false, false, false, false] rfl rfl (any_of HT_.out (by kernel_rfl)) (fun _ _ _ h => h) (Or.inl ⟨by rfl, ?_⟩) ?_ ?_
  rotate_left
  · intro w'
    go_simp
    with_reducible rfl
  rotate_left
  · simp only [Act.put, List.setIfInBounds_toArray, List.set_cons_zero, List.set_cons_succ, i64_w, i32_w]
    rfl
  refine pure_ (i := 12) (N := some 17) (v := ?_) (a' := ?_) #[true, false, true, false, false, true, false, true, false, false, true, false, true, false, false, false, false, false] rfl rfl (any_of HT_.out (by kernel_rfl)) (fun _ _ _ h => h) (Or.inl ⟨by rfl, ?_⟩) ?_ ?_
  rotate_left
  · intro w'
    go_simp
    with_reducible rfl
  rotate_left
  · simp only [Act.put, List.setIfInBounds_toArray, List.set_cons_zero, List.set_cons_succ, i64_w, i32_w]
    rfl
  refine take_ (i := 1) (N := some 6) (v := ?_) (a' := ?_) #[true, true, true, false, false, true, false, true, false, false, true, false, true, false, false, false, false, false] rfl rfl (take_ofW HT_.out HW_.out (by kernel_rfl)) (fun _ _ _ h => h) (Or.inl ⟨by rfl, ?_⟩) hHeld ?_ ?_
  rotate_left
  · rintro w' ⟨s0, s1, s2, s3, s4, s5⟩
    go_simp
    with_reducible rfl
  rotate_left
  · simp only [Act.put, List.setIfInBounds_toArray, List.set_cons_zero, List.set_cons_succ, i64_w, i32_w]
    rfl
  refine take_ (i := 3) (N := some 8) (v := ?_) (a' := ?_) #[true, true, true, true, false, true, false, true, false, false, true, false, true, false, false, false, false, false] rfl rfl (take_ofW HT_.out HW_.out (by kernel_rfl)) (fun _ _ _ h => h) (Or.inl ⟨by rfl, ?_⟩) hHeld ?_ ?_
  rotate_left
  · rintro w' ⟨s0, s1, s2, s3, s4, s5⟩
    go_simp
    with_reducible rfl
  rotate_left
  · simp only [Act.put, List.setIfInBounds_toArray, List.set_cons_zero, List.set_cons_succ, i64_w, i32_w]
    rfl
  refine take_ (i := 6) (N := some 11) (v := ?_) (a' := ?_) #[true, true, true, true, false, true, true, true, false, false, true, false, true, false, false, false, false, false] rfl rfl (take_ofW HT_.out HW_.out (by kernel_rfl)) (fun _ _ _ h => h) (Or.inl ⟨by rfl, ?_⟩) hHeld ?_ ?_
  rotate_left
  · rintro w' ⟨s0, s1, s2, s3, s4, s5⟩
    go_simp
    with_reducible rfl
  rotate_left
  · simp only [Act.put, List.setIfInBounds_toArray, List.set_cons_zero, List.set_cons_succ, i64_w, i32_w]
    rfl
  refine take_ (i := 8) (N := some 13) (v := ?_) (a' := ?_) #[true, true, true, true, false, true, true, true, true, false, true, false, true, false, false, false, false, false] rfl rfl (take_ofW HT_.out HW_.out (by kernel_rfl)) (fun _ _ _ h => h) (Or.inl ⟨by rfl, ?_⟩) hHeld ?_ ?_
  rotate_left
  · rintro w' ⟨s0, s1, s2, s3, s4, s5⟩
    go_simp
    with_reducible rfl
  rotate_left
  · simp only [Act.put, List.setIfInBounds_toArray, List.set_cons_zero, List.set_cons_succ, i64_w, i32_w]
    rfl
  refine take_ (i := 11) (N := some 16) (v := ?_) (a' := ?_) #[true, true, true, true, false, true, true, true, true, false, true, true, true, false, false, false, false, false] rfl rfl (take_ofW HT_.out HW_.out (by kernel_rfl)) (fun _ _ _ h => h) (Or.inl ⟨by rfl, ?_⟩) hHeld ?_ ?_
  rotate_left
  · rintro w' ⟨s0, s1, s2, s3, s4, s5⟩
    go_simp
    with_reducible rfl
  rotate_left
  · simp only [Act.put, List.setIfInBounds_toArray, List.set_cons_zero, List.set_cons_succ, i64_w, i32_w]
    rfl
  refine take_ (i := 13) (N := some 18) (v := ?_) (a' := ?_) #[true, true, true, true, false, true, true, true, true, false, true, true, true, true, false, false, false, false] rfl rfl (take_ofW HT_.out HW_.out (by kernel_rfl)) (fun _ _ _ h => h) (Or.inl ⟨by rfl, ?_⟩) hHeld ?_ ?_
  rotate_left
  · rintro w' ⟨s0, s1, s2, s3, s4, s5⟩
    go_simp
    with_reducible rfl
  rotate_left
  · simp only [Act.put, List.setIfInBounds_toArray, List.set_cons_zero, List.set_cons_succ, i64_w, i32_w]
    rfl
  refine one_ (i := 4) (N := some 9) #[true, true, true, true, true, true, true, true, true, false, true, true, true, true, false, false, false, false] rfl rfl (one_of HT_.out (by kernel_rfl)) (by decide) (fun K hK => ?_)
  refine goes_ Tryd.func106 (by kernel_rfl) rfl #[.int .i64 a0_0, .int .i64 a1_0] (by rfl) rfl rfl Cmp.au ?_
  with_reducible refine (cmp_Compare_int.calls a0_0 a1_0 t106 _ A3.out).mono ?_
  rintro e w' ⟨rfl, ⟨nd, rfl⟩⟩
  refine ⟨_, rfl, ?_⟩
  refine hK.out _ _ ⟨(blk_cell BK104.out 0).trans rfl, (blk_cell BK104.out 1).trans rfl, (blk_cell BK104.out 2).trans rfl, (blk_cell BK105.out 0).trans rfl, (blk_cell BK105.out 1).trans rfl, (blk_cell BK105.out 2).trans rfl⟩ (fun hHeld => ?_)
  clear hK K
  refine norm_ (a' := ?_) ?_ ?_
  rotate_left
  · show Act.put _ (some 9) _ = _
    simp only [Act.put, List.setIfInBounds_toArray, List.set_cons_zero, List.set_cons_succ, i64_w, i32_w]
    rfl
  refine one_ (i := 9) (N := some 14) #[true, true, true, true, true, true, true, true, true, true, true, true, true, true, false, false, false, false] rfl rfl (one_of HT_.out (by kernel_rfl)) (by decide) (fun K hK => ?_)
  refine goes_ Tryd.func106 (by kernel_rfl) rfl #[.int .i64 a0_1, .int .i64 a1_1] (by rfl) rfl rfl Cmp.au ?_
  with_reducible refine (cmp_Compare_int.calls a0_1 a1_1 t107 _ A4.out).mono ?_
  rintro e w' ⟨rfl, ⟨nd, rfl⟩⟩
  refine ⟨_, rfl, ?_⟩
  refine hK.out _ _ ⟨(blk_cell BK104.out 0).trans rfl, (blk_cell BK104.out 1).trans rfl, (blk_cell BK104.out 2).trans rfl, (blk_cell BK105.out 0).trans rfl, (blk_cell BK105.out 1).trans rfl, (blk_cell BK105.out 2).trans rfl⟩ (fun hHeld => ?_)
  clear hK K
  refine norm_ (a' := ?_) ?_ ?_
  rotate_left
  · show Act.put _ (some 14) _ = _
    simp only [Act.put, List.setIfInBounds_toArray, List.set_cons_zero, List.set_cons_succ, i64_w, i32_w]
    rfl
  refine one_ (i := 14) (N := some 19) #[true, true, true, true, true, true, true, true, true, true, true, true, true, true, true, false, false, false] rfl rfl (one_of HT_.out (by kernel_rfl)) (by decide) (fun K hK => ?_)
  refine goes_ Tryd.func139 (by kernel_rfl) rfl #[.string a0_2, .string a1_2] (by rfl) rfl rfl Cmp.au ?_
  with_reducible refine (strings_Compare.calls a0_2 a1_2 t108 _ A5.out).mono ?_
  rintro e w10 ⟨rfl, hb⟩
  refine ⟨_, rfl, ?_⟩
  have n0_ := Aside0.mk (blk_below (g := gb104) (o := .cells #[.int .i64 a0_0, .int .i64 a0_1, .string a0_2] 79 (0, 0)) (by (with_reducible repeat (first | refine blk_drewN ?_ _ | refine blk_drew ?_ | refine blk_alloc ?_ _)); exact BK104.out) hb)
  have n1_ := Aside0.mk (blk_below (g := gb105) (o := .cells #[.int .i64 a1_0, .int .i64 a1_1, .string a1_2] 79 (0, 0)) (by (with_reducible repeat (first | refine blk_drewN ?_ _ | refine blk_drew ?_ | refine blk_alloc ?_ _)); exact BK105.out) hb)
  have n2_ := Aside0.mk (below_step (by repeat (first | (with_reducible first | exact HB.out | apply below_alloc | apply pw_below_drewN | apply below_drew1 | refine below_set ?_ GE104.out | refine below_set ?_ GE105.out) | exact HB.out)) hb)
  clear BK104
  clear BK105
  clear HB
  have BK104 := n0_
  have BK105 := n1_
  have HB := n2_
  clear n0_ n1_ n2_
  (try clear hb)
  (try clear hb2)
  (try clear hk)
  (try clear hi)
  refine hK.out _ _ ⟨(blk_cell BK104.out 0).trans rfl, (blk_cell BK104.out 1).trans rfl, (blk_cell BK104.out 2).trans rfl, (blk_cell BK105.out 0).trans rfl, (blk_cell BK105.out 1).trans rfl, (blk_cell BK105.out 2).trans rfl⟩ (fun hHeld => ?_)
  clear hK K
  refine norm_ (a' := ?_) ?_ ?_
  rotate_left
  · show Act.put _ (some 19) _ = _
    simp only [Act.put, List.setIfInBounds_toArray, List.set_cons_zero, List.set_cons_succ, i64_w, i32_w]
    rfl
  refine one_ (i := 15) (N := some 20) #[true, true, true, true, true, true, true, true, true, true, true, true, true, true, true, true, false, false] rfl rfl (one_of HT_.out (by kernel_rfl)) (by decide) (fun K hK => ?_)
  refine Kd.R_lit_step (Kd.int .i64) _ 3 ?hg (N := 20) ?hd (xs := ([t106, t107, t108] : List Int)) (inner := [.int .i64 t106, .int .i64 t107, .int .i64 t108]) (ok := fun _ => True) (okp := fun _ => True) ?hr ?hp (fun _ hk => hk) trivial (Below.refl _ _) (Nat.le_refl _) (by simp) ?_; (case hd => rfl); (case hg => rfl); (case hr => first | (go_simp; done) | (go_simp; rfl)); (case hp => exact (Reps.one (show Kd.M (Kd.int .i64) _ _ _ t106 [.int .i64 t106] from rfl) (Reps.one (show Kd.M (Kd.int .i64) _ _ _ t107 [.int .i64 t107] from rfl) (Reps.one (show Kd.M (Kd.int .i64) _ _ _ t108 [.int .i64 t108] from rfl) (Reps.none _ _)))))
  intro v110 w11 ho12 hb hg_ hnew_
  clear hg_ hnew_
  (first | rw [← Ny109.out] at ho12 | (simp only [Int.reduceToNat] at ho12; rw [← Ny109.out] at ho12))
  have n0_ := Aside0.mk (Kd.R_lower ho12 (below_size (by repeat (first | (with_reducible first | exact HB.out | apply below_alloc | apply pw_below_drewN | apply below_drew1 | refine below_set ?_ GE104.out | refine below_set ?_ GE105.out) | exact HB.out))))
  have n1_ := Aside0.mk (blk_below (g := gb104) (o := .cells #[.int .i64 a0_0, .int .i64 a0_1, .string a0_2] 79 (0, 0)) (by (with_reducible repeat (first | refine blk_drewN ?_ _ | refine blk_drew ?_ | refine blk_alloc ?_ _)); exact BK104.out) hb)
  have n2_ := Aside0.mk (blk_below (g := gb105) (o := .cells #[.int .i64 a1_0, .int .i64 a1_1, .string a1_2] 79 (0, 0)) (by (with_reducible repeat (first | refine blk_drewN ?_ _ | refine blk_drew ?_ | refine blk_alloc ?_ _)); exact BK105.out) hb)
  have n3_ := Aside0.mk (below_step (by repeat (first | (with_reducible first | exact HB.out | apply below_alloc | apply pw_below_drewN | apply below_drew1 | refine below_set ?_ GE104.out | refine below_set ?_ GE105.out) | exact HB.out)) hb)
  clear BK104
  clear BK105
  clear HB
  have HO111 := n0_
  have BK104 := n1_
  have BK105 := n2_
  have HB := n3_
  clear n0_ n1_ n2_ n3_
  clear hb ho12
  obtain ⟨Ao13, co13, eo13⟩ := Kd.R_slice HO111.out
  (first | subst eo13 | (injection eo13 with f1_ f2_ f3_; have f4_ := f1_.symm; have f5_ := f3_.symm; clear f1_ f2_ f3_; subst f4_; subst f5_))
  refine hK.out _ _ ⟨(blk_cell BK104.out 0).trans rfl, (blk_cell BK104.out 1).trans rfl, (blk_cell BK104.out 2).trans rfl, (blk_cell BK105.out 0).trans rfl, (blk_cell BK105.out 1).trans rfl, (blk_cell BK105.out 2).trans rfl⟩ (fun hHeld => ?_)
  clear hK K
  refine norm_ (a' := ?_) ?_ ?_
  rotate_left
  · show Act.put _ (some 20) _ = _
    simp only [Act.put, List.setIfInBounds_toArray, List.set_cons_zero, List.set_cons_succ, i64_w, i32_w]
    rfl
  refine one_ (i := 16) (N := some 21) #[true, true, true, true, true, true, true, true, true, true, true, true, true, true, true, true, true, false] rfl rfl (one_of HT_.out (by kernel_rfl)) (by decide) (fun K hK => ?_)
  refine goes_ Tryd.func105 (by kernel_rfl) rfl #[.slice Ao13 y109.length co13] (by rfl) rfl rfl Cmp.au ?_
  with_reducible refine (cmp_Or_int.calls k _ _ y109 t112 _ ?side1 ?side2 A6.out).mono ?_
  (case side1 => repeat (first | exact (Kd.R_reads' HO111.out).2.2 | (with_reducible refine Kd.C_alloc ?_ _) | (with_reducible refine Kd.C_drewN ?_ _) | (with_reducible refine Kd.C_drew ?_)))
  (case side2 => exact (Kd.R_reads' HO111.out).2.1)
  rintro e w' ⟨rfl, ⟨nd, rfl⟩⟩
  refine ⟨_, rfl, ?_⟩
  refine hK.out _ _ ⟨(blk_cell BK104.out 0).trans rfl, (blk_cell BK104.out 1).trans rfl, (blk_cell BK104.out 2).trans rfl, (blk_cell BK105.out 0).trans rfl, (blk_cell BK105.out 1).trans rfl, (blk_cell BK105.out 2).trans rfl⟩ (fun hHeld => ?_)
  clear hK K
  refine norm_ (a' := ?_) ?_ ?_
  rotate_left
  · show Act.put _ (some 21) _ = _
    simp only [Act.put, List.setIfInBounds_toArray, List.set_cons_zero, List.set_cons_succ, i64_w, i32_w]
    rfl
  refine pure_ (i := 17) (N := some 4) (v := ?_) (a' := ?_) #[true, true, true, true, true, true, true, true, true, true, true, true, true, true, true, true, true, true] rfl rfl (any_of HT_.out (by kernel_rfl)) (fun _ _ _ h => h) (Or.inl ⟨by rfl, ?_⟩) ?_ ?_
  rotate_left
  · intro w'
    go_simp
    with_reducible rfl
  rotate_left
  · simp only [Act.put, List.setIfInBounds_toArray, List.set_cons_zero, List.set_cons_succ, i64_w, i32_w]
    rfl
  refine done_ (done_of HT_.out (by kernel_rfl)) ?_
  try go_wp2
  go_ret
  exact ⟨by first | rfl | (simp [errW_none, errW_some] <;> rfl) | (simp [*, errW_none, errW_some] <;> rfl), by repeat (first | (with_reducible first | exact HB.out | apply below_alloc | apply pw_below_drewN | apply below_drew1 | refine below_set ?_ GE104.out | refine below_set ?_ GE105.out) | exact HB.out)⟩

/-! ### value_CompareRows: function 107 -/
section
open Go.Proofs.YtgbodlghggkmoaaDoor.Or
def cmpV (a b : S79) : Int := orI (cmpI a.f0 b.f0) (orI (cmpI a.f1 b.f1) (Lib.compareBytes a.f2.data.toList b.f2.data.toList))
abbrev cmpR : List S79 → List S79 → Int := cmpL cmpV
theorem cmpV_to : TO cmpV := (TO.pair TO.int (TO.pair TO.int TO.bytes)).via (fun x : S79 => (x.f0, x.f1, x.f2)) (fun x y h => by
  cases x; cases y
  simp only [Prod.mk.injEq] at h
  obtain ⟨rfl, rfl, rfl⟩ := h
  rfl)
theorem cmpI_f (a b : Int) : cmp_Compare_int.f a b = some (cmpI a b) := by
  unfold cmp_Compare_int.f cmp_isNaN_int.f cmpI
  by_cases h1 : a < b <;> by_cases h2 : a > b <;> simp [h1, h2]
theorem cmp_Or_f (a b c : Int) : cmp_Or_int.f 5 [a, b, c] = some (orI a (orI b c)) := by
  unfold cmp_Or_int.f orI
  simp [cmp_Or_int.l0, rd, wrap64]
  by_cases ha : a = 0 <;> by_cases hb : b = 0 <;> by_cases hc : c = 0 <;> simp [ha, hb, hc]
theorem value_Compare_f (a b : S79) : value_Compare.f 5 a.f0 a.f1 a.f2 b.f0 b.f1 b.f2 = some (cmpV a b) := by
  unfold value_Compare.f
  simp only [cmpI_f, strings_Compare.f, Option.bind_some]
  rw [cmp_Or_f]; rfl
def value_CompareRows.f (l0 : List (S79)) (l1 : List (S79)) : Option (Int) := some (cmpR l0 l1)
theorem cmpR_drop (l0 l1 : List S79) (i : Nat) (h0 : i < l0.length) (h1 : i < l1.length) : cmpR (l0.drop i) (l1.drop i) = orI (cmpV (rd_T79 l0 i) (rd_T79 l1 i)) (cmpR (l0.drop (i + 1)) (l1.drop (i + 1))) := by
  rw [List.drop_eq_getElem_cons h0, List.drop_eq_getElem_cons h1]
  simp only [cmpR, cmpL, rd_T79]
  simp [List.getD_eq_getElem?_getD, h0, h1]
set_option maxHeartbeats 8000000 in
set_option maxRecDepth 100000 in
theorem compareFunc_calls (A0 : Option Addr) (c0 : Nat) (l0 : List (S79)) (A1 : Option Addr) (c1 : Nat) (l1 : List (S79)) (w : World) (hr0 : Kd.C k79 w A0 l0.length l0) (hr1 : Kd.C k79 w A1 l1.length l1) :
    Calls Tryd.prog 128 #[.slice A0 l0.length c0, .slice A1 l1.length c1, .func (.func 129) #[] #[]] w fun e w' => e = .returned (.int .i64 (cmpR l0 l1)) ∧ Below w.heap.size w w' := by
  have HR0 := Aside0.mk hr0
  have HR1 := Aside0.mk hr1
  have m0 := hr0.2.1
  have m1 := hr1.2.1
  have HB0 := Aside0.mk (Below.refl w.heap.size w)
  clear hr0 hr1
  go_enter Tryd.func128, Tryd.ntmps128
  go_wp2
  go_loopg [13] l0.length (fun kq v13 w' => ∃ i : Nat, v13 = .int .i64 i ∧ i + kq = l0.length ∧ Aside0 (cmpR l0 l1 = cmpR (l0.drop i) (l1.drop i)) ∧ i ≤ l1.length ∧ Aside0 (Below w.heap.size w w'))
  case atStart => exact ⟨0, rfl, by omega, ⟨rfl⟩, by omega, HB0⟩
  case round =>
    obtain ⟨i, rfl, hi, HC, hi1, HB⟩ := hrel
    by_cases h0 : i < l0.length
    · by_cases h1 : i < l1.length
      · obtain ⟨a0, rfl, x0, x1, x2⟩ := at_T79 (Kd.C_below HR0.out HB.out) i (by omega) (by omega)
        obtain ⟨a1, rfl, y0, y1, y2⟩ := at_T79 (Kd.C_below HR1.out HB.out) i (by omega) (by omega)
        have HN := Aside0.mk (HC.out.trans (cmpR_drop l0 l1 i h0 h1))
        have HV := Aside0.mk (fun W => value_Compare.calls 5 _ _ _ _ _ _ _ W (value_Compare_f (rd_T79 l0 i) (rd_T79 l1 i)))
        generalize rd_T79 l0 i = a at *
        generalize rd_T79 l1 i = b at *
        simp only [Int.toNat_natCast] at x0 x1 x2 y0 y1 y2
        have q0 := World.block_lt_of_cell? wr _ x0
        have q1 := World.block_lt_of_cell? wr _ y0
        clear HC
        generalize cmpV a b = cv at *
        go_wp2_with fail
        refine (HV.out _).mono ?_
        rintro e w1 ⟨rfl, hb⟩
        have HB1 := Aside0.mk (below_step (below_alloc (below_alloc HB.out _) _) hb)
        clear hb HB HV x0 x1 x2 y0 y1 y2 q0 q1
        by_cases hc : cv = 0
        · subst hc
          go_wp2_with fail
          obtain ⟨k1, rfl⟩ : ∃ k1, gk = k1 + 1 := ⟨gk - 1, by omega⟩
          go_roundg k1
          case measure => omega
          case rel => exact ⟨i + 1, by go_num, by omega, ⟨HN.out⟩, by omega, HB1⟩
        · have hc' : (cv != 0) = true := by simpa using hc
          have hc2 : (cv == 0) = false := by simpa using hc
          have HZ := Aside0.mk hc
          clear hc
          go_wp2_with fail
          go_ret
          exact ⟨Hk.ret_i (by rw [HN.out]; unfold orI; rw [if_neg HZ.out]), HB1.out⟩
      · obtain ⟨a0, rfl, x0, x1, x2⟩ := at_T79 (Kd.C_below HR0.out HB.out) i (by omega) (by omega)
        simp only [Int.toNat_natCast] at x0 x1 x2
        have HN : Aside0 (cmpR l0 l1 = 1) := ⟨by
          rw [HC.out, List.drop_eq_getElem_cons h0, List.drop_eq_nil_of_le (by omega : l1.length ≤ i)]; rfl⟩
        go_wp2_with fail
        go_ret
        exact ⟨Hk.ret_i HN.out.symm, below_alloc HB.out _⟩
    · have HN : Aside0 (cmpR l0 l1 = if l0.length < l1.length then -1 else 0) := ⟨by
        rw [HC.out, List.drop_eq_nil_of_le (by omega : l0.length ≤ i)]
        by_cases h : l0.length < l1.length
        · rw [if_pos h, List.drop_eq_getElem_cons (by omega : i < l1.length)]; rfl
        · rw [if_neg h, List.drop_eq_nil_of_le (by omega : l1.length ≤ i)]; rfl⟩
      by_cases h : l0.length < l1.length
      all_goals
        go_wp2_with fail
        go_ret
        exact ⟨Hk.ret_i (by rw [HN.out]; simp [h]), HB.out⟩
set_option maxHeartbeats 8000000 in
set_option maxRecDepth 100000 in
theorem value_CompareRows.calls (A0 : Option Addr) (c0 : Nat) (l0 : List (S79)) (A1 : Option Addr) (c1 : Nat) (l1 : List (S79)) (r : Int) (w : World) (hr0 : Kd.C k79 w A0 l0.length l0) (hc0 : l0.length ≤ c0) (hr1 : Kd.C k79 w A1 l1.length l1) (hc1 : l1.length ≤ c1) (h : value_CompareRows.f l0 l1 = some r) :
    Calls Tryd.prog 107 #[.slice A0 l0.length c0, .slice A1 l1.length c1] w fun e w' => e = .returned (.int .i64 r) ∧ Below w.heap.size w w' := by
  obtain rfl := Option.some.inj h
  have HC := Aside0.mk (compareFunc_calls A0 c0 l0 A1 c1 l1 w hr0 hr1)
  clear h hr0 hr1 hc0 hc1
  generalize cmpR l0 l1 = v at *
  go_enter Tryd.func107, Tryd.ntmps107
  go_wp2_with fail
  refine HC.out.mono ?_
  rintro e w1 ⟨rfl, hb⟩
  go_wp2
  go_ret
  exact ⟨rfl, hb⟩

end

/-! ### delta_compare: function 70 -/
def delta_compare.f (k : Nat) (a0_0 : Int) (l0_1 : List (S79)) (a0_2 : Int) (a1_0 : Int) (l1_1 : List (S79)) (a1_2 : Int) : Option (Int) := (cmp_Compare_int.f a0_0 a1_0).bind fun t115 => ((value_CompareRows.f l0_1 l1_1).bind fun t116 => ((cmp_Or_int.f k (([t115, t116] : List Int))).bind fun t120 => (some t120)))
theorem delta_compare.mono : ∀ a0 a1 a2 a3 a4 a5 k, LeO (delta_compare.f k a0 a1 a2 a3 a4 a5) (delta_compare.f (k + 1) a0 a1 a2 a3 a4 a5) := by
  intro a0 a1 a2 a3 a4 a5 k
  unfold delta_compare.f
  repeat' first
      | (with_reducible exact cmp_Or_int.mono _ _)
      | (with_reducible exact LeO.refl _)
      | (with_reducible exact LeO.none _)
      | (with_reducible refine LeO.ite ?_ ?_)
      | (with_reducible refine LeO.bind ?_ (fun _ => ?_))
      | exact cmp_Or_int.mono _ _
      | exact LeO.none _
      | refine LeO.ite ?_ ?_
      | refine LeO.bind ?_ (fun _ => ?_)
def delta_compare.T1 : Bool × List (List Nat × List Nat) := (true, [([], []), ([0], [0]), ([], []), ([2], [2]), ([1, 3], [1, 3]), ([], []), ([5], [5]), ([], []), ([7], [7]), ([6, 8, 4], [6, 8]), ([4, 9], [4, 9]), ([10, 9], [10]), ([11, 11, 0, 1, 2, 3, 4, 5, 6, 7, 8, 9, 10, 11], [11])])
def delta_compare.B1 : List Nat := [0, 1, 0, 4, 15, 0, 32, 0, 128, 511, 1023, 2047, 4095]
theorem delta_compare.tab1 : rtab .any (opsOf Tryd.f70 1) = delta_compare.T1 := by kernel_rfl
theorem delta_compare.bits1 : waitsOk delta_compare.T1.2 delta_compare.B1 = true := by kernel_rfl
set_option maxHeartbeats 8000000 in
set_option maxRecDepth 100000 in
theorem delta_compare.calls (k : Nat) (a0_0 : Int) (A0_1 : Option Addr) (c0_1 : Nat) (l0_1 : List (S79)) (a0_2 : Int) (a1_0 : Int) (A1_1 : Option Addr) (c1_1 : Nat) (l1_1 : List (S79)) (a1_2 : Int) (r : Int) (w : World) (hr0_1 : Kd.C k79 w A0_1 l0_1.length l0_1) (hc0_1 : l0_1.length ≤ c0_1) (hr1_1 : Kd.C k79 w A1_1 l1_1.length l1_1) (hc1_1 : l1_1.length ≤ c1_1) (h : delta_compare.f k a0_0 l0_1 a0_2 a1_0 l1_1 a1_2 = some r) :
    Calls Tryd.prog 70 #[.agg #[.int .i64 a0_0, .slice A0_1 l0_1.length c0_1, .int .i64 a0_2], .agg #[.int .i64 a1_0, .slice A1_1 l1_1.length c1_1, .int .i64 a1_2]] w fun e w' => e = .returned (.int .i64 r) ∧ Below w.heap.size w w' := by
  have hu28 := Tryd.underlying28
  have HR0_1 := Aside0.mk hr0_1
  have HC0_1 := Aside0.mk hc0_1
  clear hr0_1 hc0_1
  have HR1_1 := Aside0.mk hr1_1
  have HC1_1 := Aside0.mk hc1_1
  clear hr1_1 hc1_1
  have HB := Aside0.mk (Below.refl w.heap.size w)
  have H : ((cmp_Compare_int.f a0_0 a1_0).bind fun t115 => ((value_CompareRows.f l0_1 l1_1).bind fun t116 => ((cmp_Or_int.f k (([t115, t116] : List Int))).bind fun t120 => (some t120)))) = some r := h
  clear h
  replace H := Option.bind_eq_some_iff.mp H
  obtain ⟨t115, A30, H⟩ := H
  replace H : ((value_CompareRows.f l0_1 l1_1).bind fun t116 => ((cmp_Or_int.f k (([t115, t116] : List Int))).bind fun t120 => (some t120))) = some r := H
  have A3 := Aside0.mk A30
  clear A30
  replace H := Option.bind_eq_some_iff.mp H
  obtain ⟨t116, A40, H⟩ := H
  replace H : ((cmp_Or_int.f k (([t115, t116] : List Int))).bind fun t120 => (some t120)) = some r := H
  have A4 := Aside0.mk A40
  clear A40
  obtain ⟨y117, hy117⟩ : ∃ y_ : List Int, y_ = (([t115, t116] : List Int)) := ⟨_, rfl⟩
  replace H : ((cmp_Or_int.f k y117).bind fun t120 => (some t120)) = some r := by first | (rw [hy117]; with_reducible exact H) | (have H2_ := (Option.bind_some _ _).symm.trans H; rw [hy117]; with_reducible exact H2_) | (have H2_ := (Option.bind_some _ _).symm.trans H; with_reducible exact H2_) | with_reducible exact H | (rw [hy117]; exact H) | exact H
  have Ny117 := Aside0.mk hy117
  clear hy117
  replace H := Option.bind_eq_some_iff.mp H
  obtain ⟨t120, A50, H⟩ := H
  replace H : (some t120) = some r := H
  have A5 := Aside0.mk A50
  clear A50
  obtain rfl := Option.some.inj H
  go_enter Tryd.func70, Tryd.ntmps70
  try go_wp2_with (first | ((with_reducible refine gate_dst (N := 2) rfl ?_); refine box_event ?hg (N := 2) ?hd (cs := #[.int .i64 a0_0, .slice A0_1 l0_1.length c0_1, .int .i64 a0_2]) (t := 28) ?hr ?_; (case hd => rfl); (case hg => rfl); (case hr => first | (go_simp; done) | (go_simp; rfl)); intro gb113 hg w6 hbox hb; have n0_ := Aside0.mk (below_step (Cmp.bq HB.out) hb); have n1_ := Aside0.mk (hbox); have n2_ := Aside0.mk ((by rw [hg]; exact (below_size (Cmp.bq HB.out)) : w.heap.size ≤ gb113)); have n3_ := Aside0.mk ((by rw [hg]; exact (below_size (Cmp.bq HB.out)) : w.heap.size ≤ gb113)); clear HB; have HB := n0_; have BK113 := n1_; have GW113 := n2_; have GE113 := n3_; clear n0_ n1_ n2_ n3_; clear hb hbox hg) | ((with_reducible refine gate_dst (N := 3) rfl ?_); refine box_event ?hg (N := 3) ?hd (cs := #[.int .i64 a1_0, .slice A1_1 l1_1.length c1_1, .int .i64 a1_2]) (t := 28) ?hr ?_; (case hd => rfl); (case hg => rfl); (case hr => first | (go_simp; done) | (go_simp; rfl)); intro gb114 hg w7 hbox hb; have n0_ := Aside0.mk (blk_below (g := gb113) (o := .cells #[.int .i64 a0_0, .slice A0_1 l0_1.length c0_1, .int .i64 a0_2] 28 (0, 0)) (by (with_reducible repeat (first | refine blk_drewN ?_ _ | refine blk_drew ?_ | refine blk_alloc ?_ _)); exact BK113.out) hb); have n1_ := Aside0.mk (below_step (by repeat (first | (with_reducible first | exact HB.out | apply below_alloc | apply pw_below_drewN | apply below_drew1 | refine below_set ?_ GE113.out) | exact HB.out)) hb); have n2_ := Aside0.mk (hbox); have n3_ := Aside0.mk ((by rw [hg]; exact (below_size (by repeat (first | (with_reducible first | exact HB.out | apply below_alloc | apply pw_below_drewN | apply below_drew1 | refine below_set ?_ GE113.out) | exact HB.out))) : w.heap.size ≤ gb114)); have n4_ := Aside0.mk ((by rw [hg]; exact (below_size (by repeat (first | (with_reducible first | exact HB.out | apply below_alloc | apply pw_below_drewN | apply below_drew1 | refine below_set ?_ GE113.out) | exact HB.out))) : w.heap.size ≤ gb114)); have n5_ := Aside0.mk ((by rw [hg]; exact Nat.ne_of_lt (blk_lt (g := gb113) (o := .cells #[.int .i64 a0_0, .slice A0_1 l0_1.length c0_1, .int .i64 a0_2] 28 (0, 0)) (by (with_reducible repeat (first | refine blk_drewN ?_ _ | refine blk_drew ?_ | refine blk_alloc ?_ _)); exact BK113.out)) : gb113 ≠ gb114)); have n6_ := Aside0.mk ((by rw [hg]; exact Nat.ne_of_gt (blk_lt (g := gb113) (o := .cells #[.int .i64 a0_0, .slice A0_1 l0_1.length c0_1, .int .i64 a0_2] 28 (0, 0)) (by (with_reducible repeat (first | refine blk_drewN ?_ _ | refine blk_drew ?_ | refine blk_alloc ?_ _)); exact BK113.out)) : gb114 ≠ gb113)); clear BK113; clear HB; have BK113 := n0_; have HB := n1_; have BK114 := n2_; have GW114 := n3_; have GE114 := n4_; have NB113_114 := n5_; have NB114_113 := n6_; clear n0_ n1_ n2_ n3_ n4_ n5_ n6_; clear hb hbox hg))
  have n0_ := Aside0.mk (blk_drew BK113.out)
  have n1_ := Aside0.mk (blk_drew BK114.out)
  have n2_ := Aside0.mk (below_drew1 HB.out)
  clear BK113
  clear BK114
  clear HB
  have BK113 := n0_
  have BK114 := n1_
  have HB := n2_
  clear n0_ n1_ n2_
  refine start_ (n := 13) (S := fun w' => w'.cell? ⟨gb113, 0, none⟩ = some (.int .i64 a0_0) ∧ w'.cell? ⟨gb113, 1, none⟩ = some (.slice A0_1 l0_1.length c0_1) ∧ w'.cell? ⟨gb113, 2, none⟩ = some (.int .i64 a0_2) ∧ w'.cell? ⟨gb114, 0, none⟩ = some (.int .i64 a1_0) ∧ w'.cell? ⟨gb114, 1, none⟩ = some (.slice A1_1 l1_1.length c1_1) ∧ w'.cell? ⟨gb114, 2, none⟩ = some (.int .i64 a1_2)) (ds := []) #[false, false, false, false, false, false, false, false, false, false, false, false, false] (by kernel_rfl) rfl rfl ⟨(blk_cell BK113.out 0).trans rfl, (blk_cell BK113.out 1).trans rfl, (blk_cell BK113.out 2).trans rfl, (blk_cell BK114.out 0).trans rfl, (blk_cell BK114.out 1).trans rfl, (blk_cell BK114.out 2).trans rfl⟩ (fun hHeld => ?_); refine with_tabW delta_compare.tab1 delta_compare.bits1 (fun HT_ HW_ => ?_)
  generalize w7.drew = w8 at BK113 BK114 HB hHeld ⊢
  refine pure_ (i := 0) (N := some 5) (v := ?_) (a' := ?_) #[true, false, false, false, false, false, false, false, false, false, false, false, false] rfl rfl (any_of HT_.out (by kernel_rfl)) (fun _ _ _ h => h) (Or.inl ⟨by rfl, ?_⟩) ?_ ?_
  rotate_left
  · intro w'
    go_simp
    with_reducible rfl
  rotate_left
  · simp only [Act.put, List.setIfInBounds_toArray, List.set_cons_zero, List.set_cons_succ, i64_w, i32_w]
    rfl
  refine pure_ (i := 2) (N := some 7) (v := ?_) (a' := ?_) #[true, false, true, false, false, false, false, false, false, false, false, false, false] rfl rfl (any_of HT_.out (by kernel_rfl)) (fun _ _ _ h => h) (Or.inl ⟨by rfl, ?_⟩) ?_ ?_
  rotate_left
  · intro w'
    go_simp
    with_reducible rfl
  rotate_left
  · simp only [Act.put, List.setIfInBounds_toArray, List.set_cons_zero, List.set_cons_succ, i64_w, i32_w]
    rfl
  refine pure_ (i := 5) (N := some 10) (v := ?_) (a' := ?_) #[true, false, true, false, false, true, false, false, false, false, false, false, false] rfl rfl (any_of HT_.out (by kernel_rfl)) (fun _ _ _ h => h) (Or.inl ⟨by rfl, ?_⟩) ?_ ?_
  rotate_left
  · intro w'
    go_simp
    with_reducible rfl
  rotate_left
  · simp only [Act.put, List.setIfInBounds_toArray, List.set_cons_zero, List.set_cons_succ, i64_w, i32_w]
    rfl
  refine pure_ (i := 7) (N := some 12) (v := ?_) (a' := ?_) #[true, false, true, false, false, true, false, true, false, false, false, false, false] rfl rfl (any_of HT_.out (by kernel_rfl)) (fun _ _ _ h => h) (Or.inl ⟨by rfl, ?_⟩) ?_ ?_
  rotate_left
  · intro w'
    go_simp
    with_reducible rfl
  rotate_left
  · simp only [Act.put, List.setIfInBounds_toArray, List.set_cons_zero, List.set_cons_succ, i64_w, i32_w]
    rfl
  refine take_ (i := 1) (N := some 6) (v := ?_) (a' := ?_) #[true, true, true, false, false, true, false, true, false, false, false, false, false] rfl rfl (take_ofW HT_.out HW_.out (by kernel_rfl)) (fun _ _ _ h => h) (Or.inl ⟨by rfl, ?_⟩) hHeld ?_ ?_
  rotate_left
  · rintro w' ⟨s0, s1, s2, s3, s4, s5⟩
    go_simp
    with_reducible rfl
  rotate_left
  · simp only [Act.put, List.setIfInBounds_toArray, List.set_cons_zero, List.set_cons_succ, i64_w, i32_w]
    rfl
  refine take_ (i := 3) (N := some 8) (v := ?_) (a' := ?_) #[true, true, true, true, false, true, false, true, false, false, false, false, false] rfl rfl (take_ofW HT_.out HW_.out (by kernel_rfl)) (fun _ _ _ h => h) (Or.inl ⟨by rfl, ?_⟩) hHeld ?_ ?_
  rotate_left
  · rintro w' ⟨s0, s1, s2, s3, s4, s5⟩
    go_simp
    with_reducible rfl
  rotate_left
  · simp only [Act.put, List.setIfInBounds_toArray, List.set_cons_zero, List.set_cons_succ, i64_w, i32_w]
    rfl
  refine take_ (i := 6) (N := some 11) (v := ?_) (a' := ?_) #[true, true, true, true, false, true, true, true, false, false, false, false, false] rfl rfl (take_ofW HT_.out HW_.out (by kernel_rfl)) (fun _ _ _ h => h) (Or.inl ⟨by rfl, ?_⟩) hHeld ?_ ?_
  rotate_left
  · rintro w' ⟨s0, s1, s2, s3, s4, s5⟩
    go_simp
    with_reducible rfl
  rotate_left
  · simp only [Act.put, List.setIfInBounds_toArray, List.set_cons_zero, List.set_cons_succ, i64_w, i32_w]
    rfl
  refine take_ (i := 8) (N := some 13) (v := ?_) (a' := ?_) #[true, true, true, true, false, true, true, true, true, false, false, false, false] rfl rfl (take_ofW HT_.out HW_.out (by kernel_rfl)) (fun _ _ _ h => h) (Or.inl ⟨by rfl, ?_⟩) hHeld ?_ ?_
  rotate_left
  · rintro w' ⟨s0, s1, s2, s3, s4, s5⟩
    go_simp
    with_reducible rfl
  rotate_left
  · simp only [Act.put, List.setIfInBounds_toArray, List.set_cons_zero, List.set_cons_succ, i64_w, i32_w]
    rfl
  refine one_ (i := 4) (N := some 9) #[true, true, true, true, true, true, true, true, true, false, false, false, false] rfl rfl (one_of HT_.out (by kernel_rfl)) (by decide) (fun K hK => ?_)
  refine goes_ Tryd.func106 (by kernel_rfl) rfl #[.int .i64 a0_0, .int .i64 a1_0] (by rfl) rfl rfl Cmp.au ?_
  with_reducible refine (cmp_Compare_int.calls a0_0 a1_0 t115 _ A3.out).mono ?_
  rintro e w' ⟨rfl, ⟨nd, rfl⟩⟩
  refine ⟨_, rfl, ?_⟩
  refine hK.out _ _ ⟨(blk_cell BK113.out 0).trans rfl, (blk_cell BK113.out 1).trans rfl, (blk_cell BK113.out 2).trans rfl, (blk_cell BK114.out 0).trans rfl, (blk_cell BK114.out 1).trans rfl, (blk_cell BK114.out 2).trans rfl⟩ (fun hHeld => ?_)
  clear hK K
  refine norm_ (a' := ?_) ?_ ?_
  rotate_left
  · show Act.put _ (some 9) _ = _
    simp only [Act.put, List.setIfInBounds_toArray, List.set_cons_zero, List.set_cons_succ, i64_w, i32_w]
    rfl
  refine one_ (i := 9) (N := some 14) #[true, true, true, true, true, true, true, true, true, true, false, false, false] rfl rfl (one_of HT_.out (by kernel_rfl)) (by decide) (fun K hK => ?_)
  refine goes_ Tryd.func107 (by kernel_rfl) rfl #[.slice A0_1 l0_1.length c0_1, .slice A1_1 l1_1.length c1_1] (by rfl) rfl rfl Cmp.au ?_
  with_reducible refine (value_CompareRows.calls _ _ l0_1 _ _ l1_1 t116 _ ?side1 ?side2 ?side3 ?side4 A4.out).mono ?_
  (case side1 => exact Cmp.cb (Kd.C_below HR0_1.out (by repeat (first | (with_reducible first | exact HB.out | apply below_alloc | apply pw_below_drewN | apply below_drew1 | refine below_set ?_ GE113.out | refine below_set ?_ GE114.out) | exact HB.out))))
  (case side2 => exact HC0_1.out)
  (case side3 => exact Cmp.cb (Kd.C_below HR1_1.out (by repeat (first | (with_reducible first | exact HB.out | apply below_alloc | apply pw_below_drewN | apply below_drew1 | refine below_set ?_ GE113.out | refine below_set ?_ GE114.out) | exact HB.out))))
  (case side4 => exact HC1_1.out)
  rintro e w9 ⟨rfl, hb⟩
  refine ⟨_, rfl, ?_⟩
  have n0_ := Aside0.mk (blk_below (g := gb113) (o := .cells #[.int .i64 a0_0, .slice A0_1 l0_1.length c0_1, .int .i64 a0_2] 28 (0, 0)) (by (with_reducible repeat (first | refine blk_drewN ?_ _ | refine blk_drew ?_ | refine blk_alloc ?_ _)); exact BK113.out) hb)
  have n1_ := Aside0.mk (blk_below (g := gb114) (o := .cells #[.int .i64 a1_0, .slice A1_1 l1_1.length c1_1, .int .i64 a1_2] 28 (0, 0)) (by (with_reducible repeat (first | refine blk_drewN ?_ _ | refine blk_drew ?_ | refine blk_alloc ?_ _)); exact BK114.out) hb)
  have n2_ := Aside0.mk (below_step (by repeat (first | (with_reducible first | exact HB.out | apply below_alloc | apply pw_below_drewN | apply below_drew1 | refine below_set ?_ GE113.out | refine below_set ?_ GE114.out) | exact HB.out)) hb)
  clear BK113
  clear BK114
  clear HB
  have BK113 := n0_
  have BK114 := n1_
  have HB := n2_
  clear n0_ n1_ n2_
  (try clear hb)
  (try clear hb2)
  (try clear hk)
  (try clear hi)
  refine hK.out _ _ ⟨(blk_cell BK113.out 0).trans rfl, (blk_cell BK113.out 1).trans rfl, (blk_cell BK113.out 2).trans rfl, (blk_cell BK114.out 0).trans rfl, (blk_cell BK114.out 1).trans rfl, (blk_cell BK114.out 2).trans rfl⟩ (fun hHeld => ?_)
  clear hK K
  refine norm_ (a' := ?_) ?_ ?_
  rotate_left
  · show Act.put _ (some 14) _ = _
    simp only [Act.put, List.setIfInBounds_toArray, List.set_cons_zero, List.set_cons_succ, i64_w, i32_w]
    rfl
  refine one_ (i := 10) (N := some 15) #[true, true, true, true, true, true, true, true, true, true, true, false, false] rfl rfl (one_of HT_.out (by kernel_rfl)) (by decide) (fun K hK => ?_)
  refine Kd.R_lit_step (Kd.int .i64) _ 3 ?hg (N := 15) ?hd (xs := ([t115, t116] : List Int)) (inner := [.int .i64 t115, .int .i64 t116]) (ok := fun _ => True) (okp := fun _ => True) ?hr ?hp (fun _ hk => hk) trivial (Below.refl _ _) (Nat.le_refl _) (by simp) ?_; (case hd => rfl); (case hg => rfl); (case hr => first | (go_simp; done) | (go_simp; rfl)); (case hp => exact (Reps.one (show Kd.M (Kd.int .i64) _ _ _ t115 [.int .i64 t115] from rfl) (Reps.one (show Kd.M (Kd.int .i64) _ _ _ t116 [.int .i64 t116] from rfl) (Reps.none _ _))))
  intro v118 w10 ho11 hb hg_ hnew_
  clear hg_ hnew_
  (first | rw [← Ny117.out] at ho11 | (simp only [Int.reduceToNat] at ho11; rw [← Ny117.out] at ho11))
  have n0_ := Aside0.mk (Kd.R_lower ho11 (below_size (by repeat (first | (with_reducible first | exact HB.out | apply below_alloc | apply pw_below_drewN | apply below_drew1 | refine below_set ?_ GE113.out | refine below_set ?_ GE114.out) | exact HB.out))))
  have n1_ := Aside0.mk (blk_below (g := gb113) (o := .cells #[.int .i64 a0_0, .slice A0_1 l0_1.length c0_1, .int .i64 a0_2] 28 (0, 0)) (by (with_reducible repeat (first | refine blk_drewN ?_ _ | refine blk_drew ?_ | refine blk_alloc ?_ _)); exact BK113.out) hb)
  have n2_ := Aside0.mk (blk_below (g := gb114) (o := .cells #[.int .i64 a1_0, .slice A1_1 l1_1.length c1_1, .int .i64 a1_2] 28 (0, 0)) (by (with_reducible repeat (first | refine blk_drewN ?_ _ | refine blk_drew ?_ | refine blk_alloc ?_ _)); exact BK114.out) hb)
  have n3_ := Aside0.mk (below_step (by repeat (first | (with_reducible first | exact HB.out | apply below_alloc | apply pw_below_drewN | apply below_drew1 | refine below_set ?_ GE113.out | refine below_set ?_ GE114.out) | exact HB.out)) hb)
  clear BK113
  clear BK114
  clear HB
  have HO119 := n0_
  have BK113 := n1_
  have BK114 := n2_
  have HB := n3_
  clear n0_ n1_ n2_ n3_
  clear hb ho11
  obtain ⟨Ao12, co12, eo12⟩ := Kd.R_slice HO119.out
  (first | subst eo12 | (injection eo12 with f1_ f2_ f3_; have f4_ := f1_.symm; have f5_ := f3_.symm; clear f1_ f2_ f3_; subst f4_; subst f5_))
  refine hK.out _ _ ⟨(blk_cell BK113.out 0).trans rfl, (blk_cell BK113.out 1).trans rfl, (blk_cell BK113.out 2).trans rfl, (blk_cell BK114.out 0).trans rfl, (blk_cell BK114.out 1).trans rfl, (blk_cell BK114.out 2).trans rfl⟩ (fun hHeld => ?_)
  clear hK K
  refine norm_ (a' := ?_) ?_ ?_
  rotate_left
  · show Act.put _ (some 15) _ = _
    simp only [Act.put, List.setIfInBounds_toArray, List.set_cons_zero, List.set_cons_succ, i64_w, i32_w]
    rfl
  refine one_ (i := 11) (N := some 16) #[true, true, true, true, true, true, true, true, true, true, true, true, false] rfl rfl (one_of HT_.out (by kernel_rfl)) (by decide) (fun K hK => ?_)
  refine goes_ Tryd.func105 (by kernel_rfl) rfl #[.slice Ao12 y117.length co12] (by rfl) rfl rfl Cmp.au ?_
  with_reducible refine (cmp_Or_int.calls k _ _ y117 t120 _ ?side1 ?side2 A5.out).mono ?_
  (case side1 => repeat (first | exact (Kd.R_reads' HO119.out).2.2 | (with_reducible refine Kd.C_alloc ?_ _) | (with_reducible refine Kd.C_drewN ?_ _) | (with_reducible refine Kd.C_drew ?_)))
  (case side2 => exact (Kd.R_reads' HO119.out).2.1)
  rintro e w' ⟨rfl, ⟨nd, rfl⟩⟩
  refine ⟨_, rfl, ?_⟩
  refine hK.out _ _ ⟨(blk_cell BK113.out 0).trans rfl, (blk_cell BK113.out 1).trans rfl, (blk_cell BK113.out 2).trans rfl, (blk_cell BK114.out 0).trans rfl, (blk_cell BK114.out 1).trans rfl, (blk_cell BK114.out 2).trans rfl⟩ (fun hHeld => ?_)
  clear hK K
  refine norm_ (a' := ?_) ?_ ?_
  rotate_left
  · show Act.put _ (some 16) _ = _
    simp only [Act.put, List.setIfInBounds_toArray, List.set_cons_zero, List.set_cons_succ, i64_w, i32_w]
    rfl
  refine pure_ (i := 12) (N := some 4) (v := ?_) (a' := ?_) #[true, true, true, true, true, true, true, true, true, true, true, true, true] rfl rfl (any_of HT_.out (by kernel_rfl)) (fun _ _ _ h => h) (Or.inl ⟨by rfl, ?_⟩) ?_ ?_
  rotate_left
  · intro w'
    go_simp
    with_reducible rfl
  rotate_left
  · simp only [Act.put, List.setIfInBounds_toArray, List.set_cons_zero, List.set_cons_succ, i64_w, i32_w]
    rfl
  refine done_ (done_of HT_.out (by kernel_rfl)) ?_
  try go_wp2
  go_ret
  exact ⟨by first | rfl | (simp [errW_none, errW_some] <;> rfl) | (simp [*, errW_none, errW_some] <;> rfl), by repeat (first | (with_reducible first | exact HB.out | apply below_alloc | apply pw_below_drewN | apply below_drew1 | refine below_set ?_ GE113.out | refine below_set ?_ GE114.out) | exact HB.out)⟩

/-! ### delta_Consolidate: function 17 -/
section
open Go Go.RowKit Go.Proofs.YtgbodlghggkmoaaDoorW.PrintWords Go.Proofs.YtgbodlghggkmoaaDoorW.PrintLast Go.Proofs.YtgbodlghggkmoaaDoorW.PrintMore Go.Proofs.YtgbodlghggkmoaaDoor.Or
open Go.Proofs Go.Proofs.YtgbodlghggkmoaaDoor.Srt
open Go.Sort (SWO flatK size_flatK get_flatK HoldsK grow)
abbrev kyD (x : S28) : Int × List S79 := (x.f0, x.f1)
abbrev numD (x : S28) : Int := x.f2
abbrev putD (x : S28) (n : Int) : S28 := ⟨x.f0, x.f1, n⟩
abbrev cK (a b : Int × List S79) : Int := orI (cmpI a.1 b.1) (cmpR a.2 b.2)
abbrev cmpD (a b : S28) : Int := cK (kyD a) (kyD b)
abbrev grpD := grp kyD numD putD cK
abbrev groupsD := groups kyD numD putD cK
abbrev consD := cons kyD numD putD cK
abbrev totD := tot kyD numD cK
theorem GD : GE kyD numD putD cK := ⟨TO.pair TO.int (TO.list cmpV_to), fun a b h h' => by
  cases a; cases b
  simp only [kyD, numD, Prod.mk.injEq] at h h'
  obtain ⟨⟨rfl, rfl⟩, rfl⟩ := And.intro h h'
  rfl, fun _ _ => rfl, fun _ _ => rfl⟩
theorem delta_compare_f (a b : S28) : delta_compare.f 5 a.f0 a.f1 a.f2 b.f0 b.f1 b.f2 = some (cmpD a b) := by
  unfold delta_compare.f
  simp only [cmpI_f, value_CompareRows.f, Option.bind_some]
  unfold cmp_Or_int.f
  simp [cmp_Or_int.l0, rd, wrap64, cmpD, cK, orI]
  by_cases ha : cmpI a.f0 b.f0 = 0 <;> by_cases hb : cmpR a.f1 b.f1 = 0 <;> simp [ha, hb]
def OkD (l : List S28) : Prop := l.length ≤ 1099511627776 ∧ ∀ x ∈ l, x.f1.length ≤ 1099511627776 ∧ wrap64 x.f2 = x.f2
instance (l : List S28) : Decidable (OkD l) := by unfold OkD; infer_instance
def delta_Consolidate.f (l0 : List (S28)) : Option (List (S28)) := if OkD l0 then some (consD l0) else none

/-- An element as it lies: its row's slice beside it. -/
structure El where
  x : S28
  A : Option Addr
  c : Nat
def Els (w : World) : Type := { e : El // e.x.f1.length ≤ e.c ∧ Kd.C k79 w e.A e.x.f1.length e.x.f1 }
instance (w : World) : Inhabited (Els w) := ⟨⟨⟨z28, none, 0⟩, Nat.le_refl _, Kd.C_nil _ _⟩⟩
def encE {w : World} (e : Els w) : List Value := [.int .i64 e.1.x.f0, .slice e.1.A e.1.x.f1.length e.1.c, .int .i64 e.1.x.f2]
def cfE {w : World} (a b : Els w) : Int := cmpD a.1.x b.1.x
theorem swoE (w : World) : SWO (ltOf (cfE (w := w))) := by
  refine ⟨fun x => ?_, fun x y z h1 h2 => ?_, fun x y z h1 h2 => ?_⟩
  · unfold ltOf cfE; rw [show cmpD x.1.x x.1.x = 0 from GD.ord.self _]; rfl
  · unfold ltOf cfE at *
    exact decide_eq_true (GD.ord.tr _ _ _ (of_decide_eq_true h1) (of_decide_eq_true h2))
  · unfold ltOf cfE at *
    have e1 : ¬ cK (kyD x.1.x) (kyD y.1.x) < 0 := of_decide_eq_false h1
    have e2 : ¬ cK (kyD y.1.x) (kyD z.1.x) < 0 := of_decide_eq_false h2
    have f1 := GD.ord.flip (kyD x.1.x) (kyD y.1.x)
    have f2 := GD.ord.flip (kyD y.1.x) (kyD z.1.x)
    have f3 := GD.ord.flip (kyD x.1.x) (kyD z.1.x)
    have := GD.ord.le_tr (a := kyD z.1.x) (b := kyD y.1.x) (d := kyD x.1.x) (by omega) (by omega)
    exact decide_eq_false (by show ¬ cK _ _ < 0; omega)
theorem get_els {w : World} {A : Option Addr} {n : Nat} {l : List S28} (h : Kd.C k28 w A n l) :
    ∃ d : Array (Els w), d.size = n ∧ d.toList.map (·.1.x) = l ∧ ∀ ad, A = some ad → ∀ i, i < n → ∀ t u, (encE d[i]!)[t]? = some u → w.cell? (ad.add (i * 3 + t)) = some u := by
  obtain ⟨hn, hm, hc⟩ := h
  rcases Nat.eq_zero_or_pos n with h0 | h0
  · subst h0
    obtain rfl := List.length_eq_zero_iff.1 hn
    exact ⟨#[], rfl, rfl, fun ad _ i hi => by omega⟩
  · obtain ⟨ad, rfl, hc1⟩ := hc h0
    have hc2 : ∀ i : Fin l.length, ∃ e : Els w, e.1.x = l[i.1] ∧ ∀ t u, (encE e)[t]? = some u → w.cell? (ad.add (i.1 * 3 + t)) = some u := by
      intro i
      obtain ⟨c, hl, hk, hcell⟩ := hc1 i.1 l[i.1] (List.getElem?_eq_getElem i.2)
      obtain ⟨A1, c1, rfl, l1, g1⟩ := k28_open hk
      exact ⟨⟨⟨l[i.1], A1, c1⟩, l1, g1⟩, rfl, fun t u hu => hcell t u hu⟩
    refine ⟨Array.ofFn (fun i : Fin l.length => Classical.choose (hc2 i)), by simpa using hn, ?_, ?_⟩
    · apply List.ext_getElem
      · simp
      · intro i h1 h2
        simp only [List.getElem_map, Array.getElem_toList, Array.getElem_ofFn]
        exact (Classical.choose_spec (hc2 ⟨i, h2⟩)).1
    · rintro _ ⟨rfl⟩ i hi t u hu
      rw [getElem!_pos _ i (by simp; omega), Array.getElem_ofFn] at hu
      exact (Classical.choose_spec (hc2 ⟨i, by omega⟩)).2 t u hu
theorem encE_len {w : World} (e : Els w) : (encE e).length = 3 := rfl
theorem encE_one {w : World} (e : Els w) : ∀ v ∈ encE e, v.oneCell' = true := by
  intro v hv
  simp only [encE, List.mem_cons, List.not_mem_nil, or_false] at hv
  rcases hv with rfl | rfl | rfl <;> rfl
theorem flat_get {w : World} (d : Array (Els w)) (j : Nat) (u : Value) (h : (flatK encE 3 d).toList[j]? = some u) : j / 3 < d.size ∧ (encE d[j / 3]!)[j % 3]? = some u := by
  rw [Array.getElem?_toList] at h
  obtain ⟨hj, e⟩ := Array.getElem?_eq_some_iff.1 h
  rw [size_flatK] at hj
  have h3 : j / 3 < d.size := by omega
  refine ⟨h3, ?_⟩
  rw [← getElem!_pos _ j (by rw [size_flatK]; exact hj), get_flatK _ _ _ _ hj] at e
  have hl : j % 3 < (encE d[j / 3]!).length := by rw [encE_len]; omega
  rw [List.getElem?_eq_getElem hl, ← e]
  exact congrArg some (getElem!_pos (encE d[j / 3]!) (j % 3) hl).symm
theorem eqvE {w : World} (z x : Els w) : SrtP.eqv (ltOf cfE) z x = decide (cK (kyD z.1.x) (kyD x.1.x) = 0) := by
  have f1 := GD.ord.flip (kyD z.1.x) (kyD x.1.x)
  unfold SrtP.eqv ltOf cfE
  by_cases h : cK (kyD z.1.x) (kyD x.1.x) = 0
  · rw [decide_eq_true h, decide_eq_false (show ¬ cmpD z.1.x x.1.x < 0 by show ¬ cK _ _ < 0; omega), decide_eq_false (show ¬ cmpD x.1.x z.1.x < 0 by show ¬ cK _ _ < 0; omega)]; rfl
  · rw [decide_eq_false h]
    rcases Int.lt_or_gt_of_ne h with h1 | h1
    · rw [decide_eq_true (show cmpD z.1.x x.1.x < 0 from h1)]; rfl
    · rw [decide_eq_true (show cmpD x.1.x z.1.x < 0 by show cK _ _ < 0; omega), Bool.and_comm]; rfl
theorem tot_filt {w : World} {k : Int × List S79} {z : Els w} (hz : cK (kyD z.1.x) k = 0) : ∀ L : List (Els w), totD k (L.map (·.1.x)) = totD k ((L.filter (SrtP.eqv (ltOf cfE) z)).map (·.1.x))
  | [] => rfl
  | x :: L => by
    have ih := tot_filt hz L
    have e := GD.ord.eq _ _ hz
    rw [List.map_cons, List.filter_cons, eqvE, e]
    by_cases h : cK k (kyD x.1.x) = 0
    · rw [decide_eq_true h, if_pos rfl, List.map_cons]
      simp only [totD, tot] at ih ⊢
      rw [ih]
    · have h' : ¬ cK (kyD x.1.x) k = 0 := by have := GD.ord.flip k (kyD x.1.x); omega
      rw [decide_eq_false h, if_neg (by simp)]
      simp only [totD, tot] at ih ⊢
      rw [ih, if_neg h']; omega
theorem tot_same {w : World} {L L' : List (Els w)} (h : ∀ z, L'.filter (SrtP.eqv (ltOf cfE) z) = L.filter (SrtP.eqv (ltOf cfE) z)) (k : Int × List S79) : totD k (L'.map (·.1.x)) = totD k (L.map (·.1.x)) := by
  by_cases hz : ∃ z ∈ L ++ L', cK (kyD z.1.x) k = 0
  · obtain ⟨z, _, hz⟩ := hz
    rw [tot_filt hz L, tot_filt hz L', h z]
  · have no : ∀ M : List (Els w), (∀ z ∈ M, z ∈ L ++ L') → totD k (M.map (·.1.x)) = 0 := fun M hM => tot_zero k (fun x hx => by
      obtain ⟨z, h1, rfl⟩ := List.mem_map.1 hx
      exact fun e => hz ⟨z, hM z h1, e⟩)
    rw [no L (fun z h => List.mem_append_left _ h), no L' (fun z h => List.mem_append_right _ h)]
theorem sorted_groups {w : World} {d d' : Array (Els w)} (hs : SrtP.Srt (ltOf cfE) 0 d.size d d') (hr : ∀ x ∈ d.toList.map (·.1.x), wrap64 x.f2 = x.f2) :
    d'.size = d.size ∧ (∀ x ∈ d'.toList, x ∈ d.toList) ∧ groupsD (d'.toList.map (·.1.x)) = consD (d.toList.map (·.1.x)) := by
  have e1 := hs.st.size
  have s1 : SrtP.seg d 0 d.size = d.toList := SrtP.seg_all d
  have s2 : SrtP.seg d' 0 d.size = d'.toList := by rw [← e1]; exact SrtP.seg_all d'
  have hm : ∀ x ∈ d'.toList, x ∈ d.toList := fun x hx => by
    have := hs.st.mem (swoE w) (x := x) (by rw [s2]; exact hx)
    rw [s1] at this; exact this
  refine ⟨e1, hm, ?_⟩
  have hf := hs.st.filt
  rw [s1, s2] at hf
  refine eq_cons GD hr (canon_groups GD ?_ ?_) (fun k => (tot_groups GD k _).trans (congrArg wrap64 (tot_same hf k)))
  · rw [List.pairwise_map, List.pairwise_iff_getElem]
    intro i j hi hj hij
    simp only [Array.length_toList] at hi hj
    have := hs.so i j (Nat.zero_le _) hij (by omega)
    rw [getElem!_pos _ i hi, getElem!_pos _ j hj] at this
    have := of_decide_eq_false this
    have f1 := GD.ord.flip (kyD (d'.toList[i]).1.x) (kyD (d'.toList[j]).1.x)
    simp only [Array.getElem_toList] at f1 ⊢
    have h3 : ¬ cK (kyD (d'[j]).1.x) (kyD (d'[i]).1.x) < 0 := this
    omega
  · intro x hx
    obtain ⟨y, hy, rfl⟩ := List.mem_map.1 hx
    exact hr _ (List.mem_map.2 ⟨y, hm y hy, rfl⟩)
open Go Go.RowKit Go.Proofs.YtgbodlghggkmoaaDoorW.PrintWords Go.Proofs.YtgbodlghggkmoaaDoorW.PrintLast Go.Proofs.YtgbodlghggkmoaaDoorW.PrintMore Go.Proofs.YtgbodlghggkmoaaDoor.Or
open Go.Proofs Go.Proofs.YtgbodlghggkmoaaDoor.Srt
open Go.Sort (SWO flatK size_flatK get_flatK HoldsK grow)
theorem below_redrawn {B : Nat} {w W : World} (h : Below B (redrawn w 0) W) : Below B w W := ⟨h.os, h.tape, h.output, h.size, h.block⟩
theorem below_to {B C : Nat} {w w1 w2 : World} (h1 : Below B w w1) (h2 : Below C w1 w2) (hBC : B ≤ C) : Below B w w2 := ⟨h2.os.trans h1.os, h2.tape.trans h1.tape, h2.output.trans h1.output, Nat.le_trans h1.size h2.size, fun k hk => (h2.block k (Nat.lt_of_lt_of_le hk hBC)).trans (h1.block k hk)⟩
theorem cmpB_delta {w w1 : World} (hb : Below w.heap.size w w1) (g n : Nat) (hg : w.heap.size ≤ g) : CmpB Tryd.prog 70 #[] (encE (w := w)) 3 cfE g 0 n (redrawn w1 0) := by
  intro W dk hs hk x y
  have hB : Below w.heap.size w W := below_to hb (below_redrawn (below_swk hk hg hb.size)) (Nat.le_refl _)
  rw [Array.append_empty]
  exact delta_compare.calls 5 x.1.x.f0 x.1.A x.1.c x.1.x.f1 x.1.x.f2 y.1.x.f0 y.1.A y.1.c y.1.x.f1 y.1.x.f2 (cmpD x.1.x y.1.x) W (Kd.C_below x.2.2 hB) x.2.1 (Kd.C_below y.2.2 hB) y.2.1 (delta_compare_f _ _)
/-- What the sort has left. -/
structure Sorted (w w1 w2 : World) (g n : Nat) (l0 : List S28) (d : Array (Els w)) : Prop where
  size : d.size = n
  mem : ∀ e ∈ d.toList, e.1.x ∈ l0
  grp : groupsD (d.toList.map (·.1.x)) = consD l0
  bel : Below w.heap.size w w2
  gl : g < w2.heap.size
  cells : ∀ i, i < n → ∀ t u, (encE d[i]!)[t]? = some u → w2.cell? ⟨g, i * 3 + t, none⟩ = some u
theorem sorted_of {w w1 w2 : World} {g : Nat} {d d' : Array (Els w)} {l0 : List S28} (hl : d.toList.map (·.1.x) = l0) (hr : ∀ x ∈ l0, wrap64 x.f2 = x.f2) (hb : Below w.heap.size w w1) (hg : w.heap.size ≤ g) (hg1 : g < w1.heap.size)
    (hH : HoldsK (encE (w := w)) 3 w1 g 0 d) (hs : SrtP.Srt (ltOf cfE) 0 d.size d d') (hk : SWK (encE (w := w)) 3 (redrawn w1 0) g 0 d' w2) : Sorted w w1 w2 g d.size l0 d' := by
  obtain ⟨h1, h2, h3⟩ := sorted_groups hs (by rw [hl]; exact hr)
  refine ⟨h1, fun e he => by rw [← hl]; exact List.mem_map.2 ⟨e, h2 e he, rfl⟩, by rw [h3, hl], below_to hb (below_redrawn (below_swk hk hg hb.size)) (Nat.le_refl _), hk.lt (show g < (redrawn w1 0).heap.size from hg1), ?_⟩
  intro i hi t u hu
  have hH2 := hk.holds (show g < (redrawn w1 0).heap.size from hg1) (d0 := d) hH h1
  have ht : t < 3 := by
    have := (List.getElem?_eq_some_iff.1 hu).1
    rw [encE_len] at this; exact this
  have hj : i * 3 + t < d'.size * 3 := by omega
  have := (hH2 (i * 3 + t) (by rw [size_flatK]; exact hj)).1
  rw [get_flatK _ _ _ _ hj, Nat.zero_add] at this
  rw [this]
  rw [show (i * 3 + t) / 3 = i by omega, show (i * 3 + t) % 3 = t by omega]
  obtain ⟨h5, h6⟩ := List.getElem?_eq_some_iff.1 hu
  rw [getElem!_pos _ t h5, h6]; rfl
theorem drop_dk {w : World} (d : Array (Els w)) (i : Nat) (h : i < d.size) : (d.toList.map (·.1.x)).drop i = (d[i]!).1.x :: (d.toList.map (·.1.x)).drop (i + 1) := by
  rw [List.drop_eq_getElem_cons (by simpa using h), getElem!_pos d i h]
  simp
/-- The variable d as the inner loop has it. -/
structure Inn (wo wc : World) (x : El) (N : Int) : Prop where
  heap : wc.heap[wo.heap.size]? = some (.cells #[.int .i64 x.x.f0, .slice x.A x.x.f1.length x.c, .int .i64 N] 28 (0, 0))
  bel : Below wo.heap.size wo wc
namespace Inn
variable {wo wc : World} {x : El} {N : Int}
theorem start (wo : World) (x : El) : Inn wo (wo.alloc (.cells #[.int .i64 x.x.f0, .slice x.A x.x.f1.length x.c, .int .i64 x.x.f2] 28)) x x.x.f2 := ⟨by show (wo.heap.push _)[wo.heap.size]? = _; simp, below_alloc (Below.refl _ _) _⟩
theorem lt (h : Inn wo wc x N) : wo.heap.size < wc.heap.size := (Array.getElem?_eq_some_iff.1 h.heap).1
theorem c0 (h : Inn wo wc x N) : wc.cell? ⟨wo.heap.size, 0, none⟩ = some (.int .i64 x.x.f0) := by unfold World.cell?; rw [h.heap]; rfl
theorem c1 (h : Inn wo wc x N) : wc.cell? ⟨wo.heap.size, 1, none⟩ = some (.slice x.A x.x.f1.length x.c) := by unfold World.cell?; rw [h.heap]; rfl
theorem c2 (h : Inn wo wc x N) : wc.cell? ⟨wo.heap.size, 2, none⟩ = some (.int .i64 N) := by unfold World.cell?; rw [h.heap]; rfl
theorem fz (h : Inn wo wc x N) (o : Nat) : wc.frozen? ⟨wo.heap.size, o, none⟩ = false := by unfold World.frozen?; rw [h.heap]; simp
theorem re (h : Inn wo wc x N) (d : Nat) (os : Array Obj) : Inn wo (grow (redrawn wc d) os) x N := by
  have b := below_regrown wc d os
  exact ⟨(b.block _ h.lt).trans h.heap, below_to h.bel b (Nat.le_of_lt h.lt)⟩
theorem drew (h : Inn wo wc x N) : Inn wo wc.drew x N := ⟨h.heap, ⟨h.bel.os, h.bel.tape, h.bel.output, h.bel.size, h.bel.block⟩⟩
theorem put (h : Inn wo wc x N) (M : Int) : Inn wo (wc.setCell ⟨wo.heap.size, 2, none⟩ (.int .i64 M)) x M := by
  refine ⟨?_, h.bel.setCell (Nat.le_refl _) _⟩
  rw [Sort.setCell_eq]
  simp only [Sort.mapBlock, Array.getElem?_modify, if_pos, h.heap, Option.map_some]
  rfl
end Inn
/-- slices.Clone of a row of values. -/
theorem clone_row (A : Option Addr) (c : Nat) (xs : List S79) (w : World) (h : Kd.C k79 w A xs.length xs) (hn : xs.length ≤ 1099511627776) :
    Calls Tryd.prog 74 #[.slice A xs.length c] w fun e w' => ∃ v', e = .returned v' ∧ Kd.R k79 79 w' w.heap.size (fun k => w.heap.size ≤ k) v' xs ∧ Below w.heap.size w w' := by
  obtain ⟨inner, hr, hc⟩ : ∃ inner, Reps (k79.K w) 3 xs inner ∧ ∀ ad, A = some ad → ∀ j u, inner[j]? = some u → w.cell? (ad.add j) = some u := by
    cases A with
    | none =>
      have h0 : xs.length = 0 := by
        rcases Nat.eq_zero_or_pos xs.length with h0 | h0
        · exact h0
        · obtain ⟨ad, e, _⟩ := h.2.2 h0; cases e
      rw [List.length_eq_zero_iff.1 h0]
      exact ⟨[], Reps.none _ _, fun ad e => by cases e⟩
    | some ad =>
      obtain ⟨inner, h1, h2⟩ := ReadsRow.inner_ h
      exact ⟨inner, h1, fun ad' e j u hu => by cases e; exact h2 j u hu⟩
  have h1 : ∀ u ∈ inner, u.oneCell' = true := by
    intro u hu
    obtain ⟨j, hj⟩ := List.getElem?_of_mem hu
    have hl := (List.getElem?_eq_some_iff.1 hj).1
    have hx : j / 3 < xs.length := by have := hr.1; omega
    have hk := hr.2 (j / 3) _ (List.getElem?_eq_getElem hx)
    refine k79.K_one hk u (List.mem_of_getElem? (i := j % 3) ?_)
    rw [List.getElem?_take, if_pos (by omega), List.getElem?_drop, show j / 3 * 3 + j % 3 = j by omega]; exact hj
  refine (Dl.clone_value A xs.length c inner w ?_ hr.1 hn hc h1).mono ?_
  · intro h0; obtain ⟨ad, e, _⟩ := h.2.2 h0; rw [e]; rfl
  · rintro e w' ⟨v', rfl, ho, hb⟩
    refine ⟨v', rfl, ⟨fun k hk => own_base ho k hk, inner, ho, hr.imp_ (fun p cs hp => ?_)⟩, hb⟩
    rw [k79_open hp]
    exact k79_mkM _ _ _ _
set_option maxHeartbeats 8000000 in
set_option maxRecDepth 1000000 in
theorem delta_Consolidate.calls (A0 : Option Addr) (c0 : Nat) (l0 : List (S28)) (r : List (S28)) (w : World) (hr0 : Kd.C k28 w A0 l0.length l0) (hc0 : l0.length ≤ c0) (h : delta_Consolidate.f l0 = some r) :
    Calls Tryd.prog 17 #[.slice A0 l0.length c0] w fun e w' => ∃ v0_ : Value, e = .returned (v0_) ∧ Kd.V k28 28 w' w.heap.size (fun k_ => (w.heap.size ≤ k_)) v0_ r ∧ Below w.heap.size w w' := by
  unfold delta_Consolidate.f at h
  split at h
  rotate_left
  · cases h
  rename_i hok
  have hrd := Option.some.inj h
  obtain ⟨d, hds, hdl, hdc⟩ := get_els hr0
  have HCL : Aside0 (Calls Tryd.prog 68 #[.slice A0 l0.length c0] w fun e w' => ∃ v', e = .returned v' ∧ w'.ownsRow w.heap.size 28 3 v' l0.length (flatK encE 3 d).toList ∧ Below w.heap.size w w') := ⟨by
    refine Dl.clone_delta A0 l0.length c0 (flatK encE 3 d).toList w ?_ ?_ hok.1 ?_ ?_
    · intro h0; obtain ⟨ad, e, _⟩ := hr0.2.2 h0; rw [e]; rfl
    · rw [Array.length_toList, size_flatK, hds]
    · intro ad e j u hj
      obtain ⟨h3, h4⟩ := flat_get d j u hj
      have := hdc ad e (j / 3) (by omega) (j % 3) u h4
      rwa [show j / 3 * 3 + j % 3 = j by omega] at this
    · intro u hu
      obtain ⟨j, hj⟩ := List.getElem?_of_mem hu
      obtain ⟨h3, h4⟩ := flat_get d j u hj
      exact encE_one _ u (List.mem_of_getElem? h4)⟩
  have HOK := Aside0.mk hok
  have HD := Aside0.mk (And.intro hds hdl)
  have HR := Aside0.mk hrd
  have HM := Aside0.mk (show l0.length ≤ 9223372036854775807 from hr0.2.1)
  clear hr0 hc0 hok hdc hds hdl hrd h
  go_enter Tryd.func17, Tryd.ntmps17
  go_wp2_with fail
  refine HCL.out.mono ?_
  rintro e w1 ⟨v1, rfl, hown, hb1⟩
  have HB1 := Aside0.mk hb1
  clear HCL hb1
  rcases hown.2 with ⟨rfl, h0⟩ | ⟨g, cap, cur, rfl, hg, hh, hcap, hmax, hsz, htk⟩
  · clear hown
    have HN := Aside0.mk h0
    rw [h0]
    go_wp2_with fail
    refine (sortStable_nil 0 70 w1).mono ?_
    rintro e w2 ⟨rfl, hw⟩
    subst w2
    go_wp2
    go_loopg [3, 4] 0 (fun _ v3 v4 wr => v3 = .slice none 0 0 ∧ v4 = .slice none 0 0 ∧ wr = w1)
    case atStart => exact ⟨rfl, rfl, rfl⟩
    case round =>
      obtain ⟨rfl, rfl, hw⟩ := hrel
      subst wr
      go_wp2
      go_ret
      obtain rfl := List.length_eq_zero_iff.1 HN.out
      refine ⟨_, rfl, ⟨none, 0, ?_, ?_, ?_⟩, HB1.out⟩
      all_goals rw [← HR.out, show consD [] = [] by show cons _ _ _ _ [] = []; unfold cons; rw [List.mergeSort_nil]; rfl]
      · rfl
      · exact Nat.le_refl _
      · exact Kd.F_nil _ _ _
  · obtain ⟨hH, hg1⟩ := holds_own (k := 3) (d := d) (base := w.heap.size) (n := l0.length) (cap := cap) hh (by rw [HD.out.1]; exact htk)
    have HS : Aside0 (Calls Tryd.prog 73 #[.slice (some ⟨g, 0, none⟩) l0.length cap, .func (.func 70) #[] #[]] w1 fun e w2 => e = .returned (.tuple #[]) ∧ ∃ d', Sorted w w1 w2 g l0.length l0 d') := ⟨by
      have hcl := sortStable (cf := cfE) cap d w1 (enters_of Tryd.func70 (by kernel_rfl) rfl) (cmpB_delta HB1.out g d.size hg) (swoE w) encE_len encE_one hH hg1 (by rw [HD.out.1]; exact HOK.out.1)
      have h2 := hcl.mono (fun e w2 ⟨he, d', hs, hk⟩ => (⟨he, d', sorted_of HD.out.2 (fun x hx => (HOK.out.2 x hx).2) HB1.out hg hg1 hH hs hk⟩ : e = _ ∧ ∃ d', Sorted w w1 w2 g d.size l0 d'))
      rw [HD.out.1] at h2
      exact h2⟩
    have HM2 : l0.length ≤ 1099511627776 := HOK.out.1
    have HC2 := Aside0.mk hcap
    clear hown hh hcap hmax hsz htk hH HD hg HB1
    go_wp2_with fail
    refine HS.out.mono ?_
    rintro e w2 ⟨rfl, dk, hS⟩
    have HS2 := Aside0.mk hS
    clear HS hS
    have HB0 := Aside0.mk (Below.refl w2.heap.size w2)
    have HR0 := Aside0.mk (Kd.R_nil k28 28 w2 w2.heap.size (fun k => w2.heap.size ≤ k))
    go_wp2
    go_loopg [3, 4] l0.length (fun kq v3 v4 wr => ∃ (i : Nat) (A : Option Addr) (outs : List S28), v3 = .slice A (l0.length - i) (cap - i) ∧ i + kq = l0.length ∧ Aside0 (i < l0.length → A = some ⟨g, i * 3, none⟩) ∧ Aside0 (Kd.R k28 28 wr w2.heap.size (fun k => w2.heap.size ≤ k) v4 outs) ∧
      Aside0 (Below w2.heap.size w2 wr) ∧ Aside0 (outs ++ groupsD ((dk.toList.map (·.1.x)).drop i) = consD l0))
    case atStart => exact ⟨0, _, [], rfl, by omega, ⟨fun _ => by rw [Nat.zero_mul]⟩, HR0, HB0, ⟨HS2.out.grp⟩⟩
    case round =>
      clear HB0 HR0
      obtain ⟨i, A, outs, rfl, hi, HA, HO, HB, HG⟩ := hrel
      by_cases hlt : i < l0.length
      · obtain rfl := HA.out hlt
        have hx0 := pw_cell_below HB.out (HS2.out.cells i hlt 0 _ rfl)
        have hx1 := pw_cell_below HB.out (HS2.out.cells i hlt 1 _ rfl)
        have hx2 := pw_cell_below HB.out (HS2.out.cells i hlt 2 _ rfl)
        simp only [Nat.add_zero] at hx0
        have hX := Aside0.mk (dk[i]!).2
        obtain ⟨x, hx⟩ : ∃ x, x = (dk[i]!).1 := ⟨_, rfl⟩
        rw [← hx] at hx0 hx1 hx2 hX
        have HXE := Aside0.mk hx
        obtain ⟨wo, rfl⟩ : ∃ wo, wo = wr := ⟨wr, rfl⟩
        have HX0 := Aside0.mk (And.intro hx0 (And.intro hx1 hx2))
        obtain ⟨m, hm⟩ : ∃ m, m = l0.length - i := ⟨_, rfl⟩
        rw [← hm]
        have hpos : 0 < m := by omega
        have hmi : i + m = l0.length := by omega
        have HMI := Aside0.mk hmi
        clear hx hm hmi
        go_upto_block 2 with (fail)
        go_cut [6] (fun v6 wc => ∃ (k : Nat) (N : Int), v6 = .int .i64 k ∧ 1 ≤ k ∧ k ≤ m ∧ Aside0 (Inn wo wc x N) ∧ Aside0 (outs ++ (emit numD ⟨x.x.f0, x.x.f1, N⟩ ++ groupsD ((dk.toList.map (·.1.x)).drop (i + k))) = consD l0))
        case first =>
          clear hx0 hx1 hx2
          go_wp2_with fail
          go_loopg [6] m (fun kq v6 wc => ∃ (k : Nat) (N : Int), v6 = .int .i64 k ∧ 1 ≤ k ∧ k ≤ m ∧ k + kq = m + 1 ∧ Aside0 (Inn wo wc x N) ∧ Aside0 (outs ++ grpD ⟨x.x.f0, x.x.f1, N⟩ ((dk.toList.map (·.1.x)).drop (i + k)) = consD l0))
          case atStart =>
            refine ⟨1, x.x.f2, rfl, Nat.le_refl _, by omega, by omega, ⟨Inn.start wo x⟩, ⟨?_⟩⟩
            rw [← HG.out, drop_dk dk i (by rw [HS2.out.size]; exact hlt), ← HXE.out]
            rfl
          case round =>
            obtain ⟨k, N, rfl, hk1, hkm, hkq, HI, HG2⟩ := hrel
            have hmixed : Tryd.prog.follows .mixedOrders = true := by kernel_rfl
            by_cases hk : k < m
            · have hkz : (k : Int) < (m : Int) := by omega
              have hik : i + k < l0.length := by have := HMI.out; omega
              have pk : (0 : Int) ≤ (k : Int) := by omega
              have hY := Aside0.mk (dk[i + k]!).2
              have hy0 := pw_cell_below HI.out.bel (pw_cell_below HB.out (HS2.out.cells (i + k) hik 0 _ rfl))
              have hy1 := pw_cell_below HI.out.bel (pw_cell_below HB.out (HS2.out.cells (i + k) hik 1 _ rfl))
              have hy2 := pw_cell_below HI.out.bel (pw_cell_below HB.out (HS2.out.cells (i + k) hik 2 _ rfl))
              obtain ⟨y, hy⟩ : ∃ y, y = (dk[i + k]!).1 := ⟨_, rfl⟩
              rw [← hy] at hy0 hy1 hy2 hY
              have HYE := Aside0.mk hy
              simp only [Nat.add_mul, Nat.add_zero] at hy0 hy1 hy2
              have la0 := fun d_ os_ => cell_regrown HI.out.c0 d_ os_
              have la1 := fun d_ os_ => cell_regrown HI.out.c1 d_ os_
              have la2 := fun d_ os_ => cell_regrown HI.out.c2 d_ os_
              have lb0 := fun d_ os_ => cell_regrown hy0 d_ os_
              have lb1 := fun d_ os_ => cell_regrown hy1 d_ os_
              have lb2 := fun d_ os_ => cell_regrown hy2 d_ os_
              have hbw := fun d_ os_ => below_to (below_to (below_to HS2.out.bel HB.out HS2.out.bel.size) HI.out.bel (Nat.le_trans HS2.out.bel.size HB.out.size)) (below_regrown wr d_ os_) (Nat.le_trans (Nat.le_trans HS2.out.bel.size HB.out.size) HI.out.bel.size)
              have hc := fun d_ os_ => delta_compare.calls 5 x.x.f0 x.A x.c x.x.f1 N y.x.f0 y.A y.c y.x.f1 y.x.f2 (cK (kyD x.x) (kyD y.x)) (grow (redrawn wr d_) os_) (Kd.C_below hX.out.2 (hbw d_ os_)) hX.out.1 (Kd.C_below hY.out.2 (hbw d_ os_)) hY.out.1 (delta_compare_f ⟨x.x.f0, x.x.f1, N⟩ y.x)
              obtain ⟨cv, hcv⟩ : ∃ cv, cv = cK (kyD x.x) (kyD y.x) := ⟨_, rfl⟩
              rw [← hcv] at hc
              have HCV := Aside0.mk hcv
              have HBW := Aside0.mk hbw
              clear hy hcv hbw hy0 hy1 hy2
              by_cases h0 : cv = 0
              · subst h0
                go_wp2_with fail
                refine wp_region_quiet_below (by assumption) (by kernel_rfl) ?_
                repeat (quiet_step (first | (refine Calls.regrown_of (hc _ _))))
                refine wpQuiet_nil ?_
                intro _ hw'
                obtain ⟨⟨nq, osq⟩, hw''⟩ := hw'
                subst hw''
                have HI2 := Aside0.mk (HI.out.re nq osq)
                have hz2 : (grow (redrawn wr nq) osq).drew.cell? ⟨g, i * 3 + k * 3 + 2, none⟩ = some (.int .i64 y.x.f2) := lb2 nq osq
                clear la0 la1 la2 lb0 lb1 lb2 hc HI
                generalize grow (redrawn wr nq) osq = wq at HI2 hz2 ⊢
                have c2 := HI2.out.drew.c2
                have f2 := HI2.out.drew.fz 2
                go_wp2_with fail
                go_big_region_o
                have HP := Aside0.mk (HI2.out.put (wrap64 (N + y.x.f2))).drew
                clear c2 f2 HI2 hz2
                generalize (wq.setCell ⟨wo.heap.size, 2, none⟩ (.int .i64 (wrap64 (N + y.x.f2)))).drew = w9 at HP ⊢
                go_wp2
                obtain ⟨k1, rfl⟩ : ∃ k1, gk = k1 + 1 := ⟨gk - 1, by omega⟩
                go_roundg k1
                case measure => omega
                case rel =>
                  refine ⟨k + 1, wrap64 (N + y.x.f2), by go_num, by omega, by omega, by omega, HP, ⟨?_⟩⟩
                  rw [← HG2.out, drop_dk dk (i + k) (by rw [HS2.out.size]; exact hik), ← HYE.out]
                  show _ = outs ++ (if cK (kyD x.x) (kyD y.x) = 0 then _ else _)
                  rw [if_pos HCV.out.symm]; rfl
              · have hd0 : decide (cv = 0) = false := decide_eq_false h0
                have hb0 : (cv == 0) = false := by simpa using h0
                have HZ := Aside0.mk h0
                clear h0
                go_wp2_with fail
                refine wp_region_quiet_below (by assumption) (by kernel_rfl) ?_
                repeat (quiet_step (first | (refine Calls.regrown_of (hc _ _))))
                refine wpQuiet_nil ?_
                intro _ hw'
                obtain ⟨⟨nq, osq⟩, hw''⟩ := hw'
                subst hw''
                have HI2 := Aside0.mk (HI.out.re nq osq)
                clear la0 la1 la2 lb0 lb1 lb2 hc HI
                generalize grow (redrawn wr nq) osq = wq at HI2 ⊢
                go_wp2
                go_meet
                case rel =>
                  refine ⟨k, N, rfl, hk1, by omega, HI2, ⟨?_⟩⟩
                  rw [← HG2.out, drop_dk dk (i + k) (by rw [HS2.out.size]; exact hik), ← HYE.out]
                  show _ = outs ++ (if cK (kyD x.x) (kyD y.x) = 0 then _ else _)
                  rw [if_neg (fun h => HZ.out (HCV.out.trans h))]; rfl
            · obtain rfl : k = m := by omega
              clear hk
              have HI2 := Aside0.mk HI.out.drew
              go_wp2_with fail
              go_big_region_o
              clear HI
              generalize wr.drew = wq at HI2 ⊢
              go_wp2
              go_meet
              case rel =>
                refine ⟨k, N, rfl, hk1, Nat.le_refl _, HI2, ⟨?_⟩⟩
                rw [← HG2.out, List.drop_eq_nil_of_le (by have := HS2.out.size; have := HMI.out; simp; omega)]
                show outs ++ (_ ++ []) = _
                rw [List.append_nil]; rfl
        case rest =>
          obtain ⟨k, N, rfl, hk1, hkm, HI, HG2⟩ := hcut
          clear hx0 hx1 hx2
          have hmc : m ≤ cap - i := by have := HC2.out; have := HMI.out; omega
          have HB2 := Aside0.mk (below_to HB.out HI.out.bel HB.out.size)
          have HO2 := Aside0.mk (Kd.R_below HO.out HI.out.bel)
          have e0 := HI.out.c0
          have e1 := HI.out.c1
          have e2 := HI.out.c2
          by_cases hN : N = 0
          · obtain rfl : N = 0 := hN
            have HGR : Aside0 (outs ++ groupsD ((dk.toList.map (·.1.x)).drop (i + k)) = consD l0) := ⟨HG2.out⟩
            by_cases hcs : k < cap - i
            · have hcz : (k : Int) < ((cap - i : Nat) : Int) := by omega
              go_wp2
              go_roundg (l0.length - (i + k))
              case measure => have := HMI.out; omega
              case rel => exact ⟨i + k, some ⟨g, i * 3 + k * 3, none⟩, outs, (by have := HMI.out; congr 1 <;> omega), (by have := HMI.out; omega), ⟨fun _ => by rw [Nat.add_mul]⟩, HO2, HB2, HGR⟩
            · obtain ⟨q, hq⟩ : ∃ q, q = cap - i := ⟨_, rfl⟩
              rw [← hq] at hmc hcs ⊢
              have HQ := Aside0.mk hq
              clear hq
              obtain rfl : k = q := by omega
              go_wp2
              go_roundg (l0.length - (i + k))
              case measure => have := HMI.out; omega
              case rel => exact ⟨i + k, some ⟨g, i * 3, none⟩, outs, (by have := HMI.out; have := HQ.out; congr 1 <;> omega), (by have := HMI.out; omega), ⟨fun _ => by have := HMI.out; omega⟩, HO2, HB2, HGR⟩
          · have hn0 : decide (N = 0) = false := decide_eq_false hN
            have hnb : (N == 0) = false := by simpa using hN
            have hnc : (N != 0) = true := by simpa using hN
            have HNN := Aside0.mk hN
            have HBW := Aside0.mk (below_to HS2.out.bel HB2.out HS2.out.bel.size)
            have HCL := Aside0.mk (clone_row x.A x.c x.x.f1 wc (Kd.C_below hX.out.2 HBW.out) (by
              have h1 := HS2.out.mem (dk[i]!) (by rw [getElem!_pos dk i (by rw [HS2.out.size]; exact hlt)]; exact Array.getElem_mem_toList _)
              rw [← HXE.out] at h1
              exact (HOK.out.2 _ h1).1))
            clear hN
            go_wp2_with fail
            refine HCL.out.mono ?_
            rintro e w3 ⟨rv, rfl, hR3, hb3⟩
            obtain ⟨A3, c3, rfl⟩ := Kd.R_slice hR3
            have HR3 := Aside0.mk hR3
            have HB3 := Aside0.mk hb3
            clear hR3 hb3 HCL
            have HI3 : Aside0 (Inn wo w3 x N) := ⟨⟨(HB3.out.block _ HI.out.lt).trans HI.out.heap, below_to HI.out.bel HB3.out (Nat.le_of_lt HI.out.lt)⟩⟩
            have g1 := HI3.out.c1
            have gz := HI3.out.fz 1
            clear e0 e1 e2
            go_upto_region 11 with (fail)
            obtain ⟨W, hW⟩ : ∃ W, W = w3.setCell ⟨wo.heap.size, 1, none⟩ (.slice A3 x.x.f1.length c3) := ⟨_, rfl⟩
            have HWH : W.heap[wo.heap.size]? = some (.cells #[.int .i64 x.x.f0, .slice A3 x.x.f1.length c3, .int .i64 N] 28 (0, 0)) := by
              rw [hW, Sort.setCell_eq]
              simp only [Sort.mapBlock, Array.getElem?_modify, if_pos, HI3.out.heap, Option.map_some]
              rfl
            have HBo := Aside0.mk (show Below wo.heap.size wo W by rw [hW]; exact (below_to HI.out.bel HB3.out (Nat.le_of_lt HI.out.lt)).setCell (Nat.le_refl _) _)
            have HRW := Aside0.mk (show Kd.R k79 79 W w2.heap.size (fun k => wc.heap.size ≤ k) (.slice A3 x.x.f1.length c3) x.x.f1 by
              rw [hW]
              exact Kd.R_lower (Kd.R_far HR3.out (fun k hk => by have := HI.out.lt; show k ≠ wo.heap.size; omega) _) HB2.out.size)
            rw [← hW]
            have HOW := Aside0.mk (Kd.R_below HO.out HBo.out)
            have HBW2 := Aside0.mk (below_to HB.out HBo.out HB.out.size)
            have HKP := Aside0.mk (show ∀ k, wc.heap.size ≤ k → w2.heap.size ≤ k ∧ some k ≠ Value.ownBlock u4 from fun k hk => ⟨Nat.le_trans HB2.out.size hk, fun e => by
              obtain ⟨inner, ho⟩ := Kd.R_own HO.out
              have := own_lt ho k e.symm
              have := HI.out.lt
              omega⟩)
            have HLen : outs.length + 1 ≤ 1099511627776 := by
              have h1 := congrArg List.length HG2.out
              have h2 := cons_length (key := kyD) (num := numD) (put := putD) (c := cK) l0
              simp only [List.length_append, emit, if_neg HNN.out, List.length_singleton] at h1
              show _ ≤ _
              have : (consD l0).length ≤ l0.length := h2
              omega
            have e0 : W.cell? ⟨wo.heap.size, 0, none⟩ = some (.int .i64 x.x.f0) := by unfold World.cell?; rw [HWH]; rfl
            have e1 : W.cell? ⟨wo.heap.size, 1, none⟩ = some (.slice A3 x.x.f1.length c3) := by unfold World.cell?; rw [HWH]; rfl
            have e2 : W.cell? ⟨wo.heap.size, 2, none⟩ = some (.int .i64 N) := by unfold World.cell?; rw [HWH]; rfl
            clear hW g1 gz HWH HI3 HR3 HB3
            have HGR : Aside0 ((outs ++ [⟨x.x.f0, x.x.f1, N⟩]) ++ groupsD ((dk.toList.map (·.1.x)).drop (i + k)) = consD l0) := ⟨by
              rw [← HG2.out, List.append_assoc]
              show _ = outs ++ (emit numD _ ++ _)
              unfold emit
              rw [if_neg HNN.out]⟩
            by_cases hcs : k < cap - i
            · have hcz : (k : Int) < ((cap - i : Nat) : Int) := by omega
              go_wp2_with ((with_reducible refine gate_builtin (b := .append) (xs := #[.tmp 48, .tmp 50]) rfl ?_); (try (refine gate_guard (by rfl) ?_; dsimp only)); at_builtin; refine Kd.R_append k28 (w0 := w2) w2.heap.size rfl (.tmp 48) (.tmp 50) 22 28 (.agg #[(.int .i64 0), (.slice none 0 0), (.int .i64 0)]) 40 rfl Tryd.underlying22 Dl.infoD rfl (by decide) (by omega) u4 outs ⟨x.x.f0, x.x.f1, N⟩ [.int .i64 x.x.f0, .slice A3 x.x.f1.length c3, .int .i64 N] (fun k => w2.heap.size ≤ k) (fun k => wc.heap.size ≤ k) rfl rfl ?aP HKP.out ?aF HOW.out HBW2.out HBW2.out.size ?aL ?_; (case aP => exact k28_mkM _ _ _ _ HRW.out); (case aF => exact fun k hk => Nat.le_trans HBW2.out.size hk); (case aL => omega); rintro nv w5 hR5 hB5 _ _; have HR5 := Aside0.mk hR5; have HB5 := Aside0.mk hB5; clear hR5 hB5)
              go_roundg (l0.length - (i + k))
              case measure => have := HMI.out; omega
              case rel => exact ⟨i + k, some ⟨g, i * 3 + k * 3, none⟩, outs ++ [⟨x.x.f0, x.x.f1, N⟩], (by have := HMI.out; congr 1 <;> omega), (by have := HMI.out; omega), ⟨fun _ => by rw [Nat.add_mul]⟩, HR5, HB5, HGR⟩
            · obtain ⟨q, hq⟩ : ∃ q, q = cap - i := ⟨_, rfl⟩
              rw [← hq] at hmc hcs ⊢
              have HQ := Aside0.mk hq
              clear hq
              obtain rfl : k = q := by omega
              go_wp2_with ((with_reducible refine gate_builtin (b := .append) (xs := #[.tmp 48, .tmp 50]) rfl ?_); (try (refine gate_guard (by rfl) ?_; dsimp only)); at_builtin; refine Kd.R_append k28 (w0 := w2) w2.heap.size rfl (.tmp 48) (.tmp 50) 22 28 (.agg #[(.int .i64 0), (.slice none 0 0), (.int .i64 0)]) 40 rfl Tryd.underlying22 Dl.infoD rfl (by decide) (by omega) u4 outs ⟨x.x.f0, x.x.f1, N⟩ [.int .i64 x.x.f0, .slice A3 x.x.f1.length c3, .int .i64 N] (fun k => w2.heap.size ≤ k) (fun k => wc.heap.size ≤ k) rfl rfl ?aP HKP.out ?aF HOW.out HBW2.out HBW2.out.size ?aL ?_; (case aP => exact k28_mkM _ _ _ _ HRW.out); (case aF => exact fun k hk => Nat.le_trans HBW2.out.size hk); (case aL => omega); rintro nv w5 hR5 hB5 _ _; have HR5 := Aside0.mk hR5; have HB5 := Aside0.mk hB5; clear hR5 hB5)
              go_roundg (l0.length - (i + k))
              case measure => have := HMI.out; omega
              case rel => exact ⟨i + k, some ⟨g, i * 3, none⟩, outs ++ [⟨x.x.f0, x.x.f1, N⟩], (by have := HMI.out; have := HQ.out; congr 1 <;> omega), (by have := HMI.out; omega), ⟨fun _ => by have := HMI.out; omega⟩, HR5, HB5, HGR⟩
      · have HE : Aside0 (outs = r) := ⟨by
          rw [← HR.out, ← HG.out, List.drop_eq_nil_of_le (by have := HS2.out.size; simp; omega)]
          show outs = outs ++ []
          rw [List.append_nil]⟩
        have h0 : l0.length - i = 0 := by omega
        rw [h0]
        clear hlt
        go_wp2
        go_ret
        obtain ⟨A3, c3, rfl, hl3, _⟩ := Kd.R_reads HO.out
        obtain rfl := HE.out
        exact ⟨_, rfl, ⟨A3, c3, rfl, hl3, Kd.F_mono (Kd.R_F HO.out) (fun k hk => Nat.le_trans HS2.out.bel.size hk)⟩, below_to HS2.out.bel HB.out HS2.out.bel.size⟩
open Go Go.RowKit Go.Proofs.YtgbodlghggkmoaaDoorW.PrintWords Go.Proofs.YtgbodlghggkmoaaDoorW.PrintLast Go.Proofs.YtgbodlghggkmoaaDoorW.PrintMore Go.Proofs.YtgbodlghggkmoaaDoor.Or
open Go.Proofs Go.Proofs.YtgbodlghggkmoaaDoor.Srt
open Go.Sort (SWO flatK size_flatK get_flatK HoldsK grow)
/-- A test of deltas, as a function value of the program. -/
structure PredOk (g : Nat) (cb : Array Value) (p : S28 → Bool) (w0 : World) : Prop where
  eg : ∀ args w, (callFunc g args).run Tryd.prog w = .ok (.enter g args) w
  ok : ∀ (W : World), Below w0.heap.size w0 W → ∀ (x : S28) (A : Option Addr) (c : Nat), x.f1.length ≤ c → Kd.C k79 W A x.f1.length x.f1 →
    Calls Tryd.prog g (#[.agg #[.int .i64 x.f0, .slice A x.f1.length c, .int .i64 x.f2]] ++ cb) W fun e w' => e = .returned (.bool (p x)) ∧ Below W.heap.size W w'
theorem PredOk.below {g : Nat} {cb : Array Value} {p : S28 → Bool} {w0 w1 : World} (h : PredOk g cb p w0) (hb : Below w0.heap.size w0 w1) : PredOk g cb p w1 := ⟨h.eg, fun W hW => h.ok W (below_to hb hW hb.size)⟩
def idx (p : S28 → Bool) (l : List S28) : Int := if l.findIdx p < l.length then (l.findIdx p : Int) else -1
set_option maxHeartbeats 8000000 in
set_option maxRecDepth 1000000 in
theorem indexFunc {g : Nat} {cb : Array Value} {p : S28 → Bool} {w0 : World} (hp : PredOk g cb p w0) (A0 : Option Addr) (c0 : Nat) (l0 : List S28) (w : World) (hw : Below w0.heap.size w0 w) (hr0 : Kd.C k28 w A0 l0.length l0) :
    Calls Tryd.prog 104 #[.slice A0 l0.length c0, .func (.func g) #[] cb] w fun e w' => e = .returned (.int .i64 (idx p l0)) ∧ Below w.heap.size w w' := by
  have HR0 := Aside0.mk hr0
  have HM := hr0.2.1
  have HP := Aside0.mk (hp.below hw).ok
  have eg := hp.eg
  have HB0 := Aside0.mk (Below.refl w.heap.size w)
  clear hr0 hp hw
  go_enter Tryd.func104, Tryd.ntmps104
  go_wp2
  go_loopg [8] l0.length (fun kq v8 wr => ∃ i : Nat, v8 = .int .i64 i ∧ i + kq = l0.length ∧ Aside0 (i ≤ l0.findIdx p) ∧ Aside0 (Below w.heap.size w wr))
  case atStart => exact ⟨0, rfl, by omega, ⟨Nat.zero_le _⟩, HB0⟩
  case round =>
    clear HB0
    obtain ⟨i, rfl, hi, HF, HB⟩ := hrel
    by_cases h0 : i < l0.length
    · obtain ⟨ad, A1, c1, rfl, x0, x1, x2, x3, x4⟩ := at_T28 (Kd.C_below HR0.out HB.out) i (by omega) (by omega)
      have hz : (i : Int) < (l0.length : Int) := by omega
      have hx : rd_T28 l0 i = l0[i] := by simp [rd_T28, List.getD_eq_getElem?_getD, h0]
      have HX := Aside0.mk hx
      have HV := Aside0.mk (HP.out wr HB.out (rd_T28 l0 i) A1 c1 x3 x4)
      clear hx x3 x4
      generalize rd_T28 l0 i = x at *
      simp only [Int.toNat_natCast] at x0 x1 x2
      obtain ⟨pv, hpv⟩ : ∃ b, b = p x := ⟨_, rfl⟩
      rw [← hpv] at HV
      have HPV := Aside0.mk hpv
      clear hpv
      go_wp2_with fail
      refine HV.out.mono ?_
      rintro e w1 ⟨rfl, hb⟩
      have HB1 := Aside0.mk (below_step HB.out hb)
      clear hb HV HB x0 x1 x2
      cases pv with
      | true =>
        go_wp2
        go_ret
        refine ⟨Hk.ret_i ?_, HB1.out⟩
        have hpx : p l0[i] = true := by rw [← HX.out]; exact HPV.out.symm
        have h1 : l0.findIdx p = i := by
          rcases Nat.lt_or_ge i (l0.findIdx p) with h | h
          · exact absurd hpx (by simpa using List.not_of_lt_findIdx h)
          · have := HF.out; omega
        unfold idx
        rw [h1, if_pos h0]
      | false =>
        go_wp2
        obtain ⟨k1, rfl⟩ : ∃ k1, gk = k1 + 1 := ⟨gk - 1, by omega⟩
        go_roundg k1
        case measure => omega
        case rel =>
          refine ⟨i + 1, by go_num, by omega, ⟨?_⟩, HB1⟩
          rcases Nat.lt_or_ge i (l0.findIdx p) with h | h
          · exact h
          · have h2 : l0.findIdx p = i := by have := HF.out; omega
            have h3 : p l0[i] = true := by
              have := List.findIdx_getElem (p := p) (xs := l0) (w := by omega)
              simp only [h2] at this; exact this
            rw [← HX.out, ← HPV.out] at h3; cases h3
    · have hz : ¬ (i : Int) < (l0.length : Int) := by omega
      go_wp2
      go_ret
      refine ⟨Hk.ret_i ?_, HB.out⟩
      unfold idx
      rw [if_neg (by have := HF.out; omega)]
set_option maxHeartbeats 4000000 in
set_option maxRecDepth 1000000 in
theorem uptoPred (t : Int) (tb : Nat) (w0 : World) (h : w0.cell? ⟨tb, 0, none⟩ = some (.int .i64 t)) : PredOk 66 #[.pointer (some ⟨tb, 0, none⟩)] (fun x => decide (x.f0 > t)) w0 := by
  refine ⟨enters_of Tryd.func66 (by kernel_rfl) rfl, fun W hW x A c hl hC => ?_⟩
  have ht := pw_cell_below hW h
  have hq := World.block_lt_of_cell? W _ ht
  clear hW hC hl
  go_enter Tryd.func66, Tryd.ntmps66
  go_wp2
  go_ret
  exact ⟨Hk.ret_b (by first | rfl | simp | (simp; omega)), below_alloc (Below.refl _ _) _⟩
set_option maxHeartbeats 4000000 in
set_option maxRecDepth 1000000 in
theorem afterPred (t : Int) (tb : Nat) (w0 : World) (h : w0.cell? ⟨tb, 0, none⟩ = some (.int .i64 t)) : PredOk 69 #[.pointer (some ⟨tb, 0, none⟩)] (fun x => decide (x.f0 ≤ t)) w0 := by
  refine ⟨enters_of Tryd.func69 (by kernel_rfl) rfl, fun W hW x A c hl hC => ?_⟩
  have ht := pw_cell_below hW h
  have hq := World.block_lt_of_cell? W _ ht
  clear hW hC hl
  go_enter Tryd.func69, Tryd.ntmps69
  go_wp2
  go_ret
  exact ⟨Hk.ret_b (by first | rfl | simp | (simp; omega)), below_alloc (Below.refl _ _) _⟩
set_option maxHeartbeats 4000000 in
set_option maxRecDepth 1000000 in
theorem multiPred (w0 : World) : PredOk 77 #[] (fun x => decide (x.f2 < 0)) w0 := by
  refine ⟨enters_of Tryd.func77 (by kernel_rfl) rfl, fun W hW x A c hl hC => ?_⟩
  rw [Array.append_empty]
  clear hW hC hl
  go_enter Tryd.func77, Tryd.ntmps77
  go_wp2
  go_ret
  exact ⟨Hk.ret_b (by first | rfl | simp | (simp; omega)), below_alloc (Below.refl _ _) _⟩
open Go Go.RowKit Go.Proofs.YtgbodlghggkmoaaDoorW.PrintWords Go.Proofs.YtgbodlghggkmoaaDoorW.PrintLast Go.Proofs.YtgbodlghggkmoaaDoorW.PrintMore Go.Proofs.YtgbodlghggkmoaaDoor.Or
open Go.Proofs Go.Proofs.YtgbodlghggkmoaaDoor.Srt
open Go.Sort (SWO flatK size_flatK get_flatK HoldsK grow)
/-- A row of deltas in a block of the call's own; their rows are elder (read at w0). -/
abbrev NR (w0 W : World) (base : Nat) (v : Value) (xs : List S28) : Prop := OwnRow (k28.K w0) 28 3 W base v xs
theorem NR.read {w0 W : World} {base : Nat} {v : Value} {xs : List S28} (h : NR w0 W base v xs) (hb : Below w0.heap.size w0 W) : ∃ A c, v = .slice A xs.length c ∧ xs.length ≤ c ∧ Kd.C k28 W A xs.length xs := by
  obtain ⟨A, c, e, hl, hr⟩ := OwnRow.reads h
  exact ⟨A, c, e, hl, hr.imp_ (Below.refl _ _) (fun p cs hp => k28.K_below hb hp)⟩
/-- slices.Clone of a row of deltas. -/
theorem clone_nr (A : Option Addr) (c : Nat) (xs : List S28) (w : World) (h : Kd.C k28 w A xs.length xs) (hn : xs.length ≤ 1099511627776) :
    Calls Tryd.prog 68 #[.slice A xs.length c] w fun e w' => ∃ v', e = .returned v' ∧ NR w w' w.heap.size v' xs ∧ Below w.heap.size w w' := by
  obtain ⟨inner, hr, hc⟩ : ∃ inner, Reps (k28.K w) 3 xs inner ∧ ∀ ad, A = some ad → ∀ j u, inner[j]? = some u → w.cell? (ad.add j) = some u := by
    cases A with
    | none =>
      have h0 : xs.length = 0 := by
        rcases Nat.eq_zero_or_pos xs.length with h0 | h0
        · exact h0
        · obtain ⟨ad, e, _⟩ := h.2.2 h0; cases e
      rw [List.length_eq_zero_iff.1 h0]
      exact ⟨[], Reps.none _ _, fun ad e => by cases e⟩
    | some ad =>
      obtain ⟨inner, h1, h2⟩ := ReadsRow.inner_ h
      exact ⟨inner, h1, fun ad' e j u hu => by cases e; exact h2 j u hu⟩
  have h1 : ∀ u ∈ inner, u.oneCell' = true := by
    intro u hu
    obtain ⟨j, hj⟩ := List.getElem?_of_mem hu
    have hl := (List.getElem?_eq_some_iff.1 hj).1
    have hx : j / 3 < xs.length := by have := hr.1; omega
    have hk := hr.2 (j / 3) _ (List.getElem?_eq_getElem hx)
    refine k28.K_one hk u (List.mem_of_getElem? (i := j % 3) ?_)
    rw [List.getElem?_take, if_pos (by omega), List.getElem?_drop, show j / 3 * 3 + j % 3 = j by omega]; exact hj
  refine (Dl.clone_delta A xs.length c inner w ?_ hr.1 hn hc h1).mono ?_
  · intro h0; obtain ⟨ad, e, _⟩ := h.2.2 h0; rw [e]; rfl
  · rintro e w' ⟨v', rfl, ho, hb⟩
    exact ⟨v', rfl, ⟨inner, ho, hr⟩, hb⟩
/-- The cells of a row, element by element; none is frozen. -/
structure RowD (w0 W : World) (g : Nat) (ys : List S28) : Prop where
  el : ∀ j (h : j < ys.length), ∃ A c, ys[j].f1.length ≤ c ∧ Kd.C k79 w0 A ys[j].f1.length ys[j].f1 ∧ W.cell? ⟨g, j * 3, none⟩ = some (.int .i64 ys[j].f0) ∧ W.cell? ⟨g, j * 3 + 1, none⟩ = some (.slice A ys[j].f1.length c) ∧ W.cell? ⟨g, j * 3 + 2, none⟩ = some (.int .i64 ys[j].f2)
  fz : ∀ o, W.frozen? ⟨g, o, none⟩ = false
namespace RowD
variable {w0 W W' : World} {g : Nat} {ys : List S28}
theorem row_of {base n cap : Nat} {cur : Array Value} {inner : List Value} (hb : W.heap[g]? = some (.cells cur 28 (0, 0))) (hc : cur.toList.take (ys.length * 3) = inner) (hr : Reps (k28.K w0) 3 ys inner) : RowD w0 W g ys := by
  refine ⟨fun j h => ?_, fun o => by unfold World.frozen?; simp [hb]⟩
  have hk := hr.2 j _ (List.getElem?_eq_getElem h)
  obtain ⟨A, c, e, hl, hC⟩ := k28_open hk
  have cell : ∀ t u, ((inner.drop (j * 3)).take 3)[t]? = some u → W.cell? ⟨g, j * 3 + t, none⟩ = some u := by
    intro t u hu
    have ht : t < 3 := by
      have := (List.getElem?_eq_some_iff.1 hu).1
      rw [List.length_take] at this; omega
    rw [List.getElem?_take, if_pos ht, List.getElem?_drop, ← hc, List.getElem?_take, if_pos (by omega), Array.getElem?_toList] at hu
    unfold World.cell?
    simp only [hb]
    simpa using hu
  rw [e] at cell
  exact ⟨A, c, hl, hC, cell 0 _ rfl, cell 1 _ rfl, cell 2 _ rfl⟩
theorem below {B : Nat} (h : RowD w0 W g ys) (hb : Below B W W') (hg : g < B) : RowD w0 W' g ys := by
  have e := hb.block g hg
  refine ⟨fun j hj => ?_, fun o => ?_⟩
  · obtain ⟨A, c, h1, h2, h3, h4, h5⟩ := h.el j hj
    unfold World.cell? at h3 h4 h5
    exact ⟨A, c, h1, h2, by unfold World.cell?; simp only at h3 ⊢; rw [e]; exact h3, by unfold World.cell?; simp only at h4 ⊢; rw [e]; exact h4, by unfold World.cell?; simp only at h5 ⊢; rw [e]; exact h5⟩
  · have := h.fz o
    unfold World.frozen? at this ⊢
    simp only at this ⊢
    rw [e]; exact this
theorem put (h : RowD w0 W g ys) {i : Nat} (hi : i < ys.length) (x : S28) {A : Option Addr} {c : Nat} (hl : x.f1.length ≤ c) (hC : Kd.C k79 w0 A x.f1.length x.f1) :
    RowD w0 (((W.setCell ⟨g, i * 3, none⟩ (.int .i64 x.f0)).setCell ⟨g, i * 3 + 1, none⟩ (.slice A x.f1.length c)).setCell ⟨g, i * 3 + 2, none⟩ (.int .i64 x.f2)) g (ys.set i x) := by
  have ne : ∀ {a b : Nat}, a ≠ b → (⟨g, a, none⟩ : Addr) ≠ ⟨g, b, none⟩ := fun h e => h (by injection e)
  refine ⟨fun j hj => ?_, fun o => ?_⟩
  · rw [List.length_set] at hj
    by_cases hij : i = j
    · subst hij
      obtain ⟨A', c', _, _, h3, h4, h5⟩ := h.el i hi
      rw [List.getElem_set_self]
      refine ⟨A, c, hl, hC, ?_, ?_, ?_⟩
      · rw [World.cell?_setCell_other _ _ _ _ (ne (by omega)), World.cell?_setCell_other _ _ _ _ (ne (by omega))]
        exact World.cell?_setCell_same _ _ _ h3
      · rw [World.cell?_setCell_other _ _ _ _ (ne (by omega))]
        exact World.cell?_setCell_same _ _ _ (u := .slice A' _ c') (by rw [World.cell?_setCell_other _ _ _ _ (ne (by omega))]; exact h4)
      · exact World.cell?_setCell_same _ _ _ (u := .int .i64 ys[i].f2) (by rw [World.cell?_setCell_other _ _ _ _ (ne (by omega)), World.cell?_setCell_other _ _ _ _ (ne (by omega))]; exact h5)
    · obtain ⟨A', c', h1, h2, h3, h4, h5⟩ := h.el j hj
      rw [List.getElem_set_ne hij]
      refine ⟨A', c', h1, h2, ?_, ?_, ?_⟩
      all_goals rw [World.cell?_setCell_other _ _ _ _ (ne (by omega)), World.cell?_setCell_other _ _ _ _ (ne (by omega)), World.cell?_setCell_other _ _ _ _ (ne (by omega))]
      · exact h3
      · exact h4
      · exact h5
  · rw [Sort.setCell_eq, Sort.setCell_eq, Sort.setCell_eq, Sort.frozen?_mapBlock, Sort.frozen?_mapBlock, Sort.frozen?_mapBlock]
    exact h.fz o
theorem cut (h : RowD w0 W g ys) (m : Nat) (vs : List Value) : RowD w0 (W.setCells g (m * 3) vs) g (ys.take m) := by
  refine ⟨fun j hj => ?_, fun o => by rw [World.frozen?_setCells]; exact h.fz o⟩
  rw [List.length_take] at hj
  obtain ⟨A, c, h1, h2, h3, h4, h5⟩ := h.el j (by omega)
  rw [List.getElem_take]
  refine ⟨A, c, h1, h2, ?_, ?_, ?_⟩
  all_goals rw [World.cell?_setCells_out _ _ _ _ _ (fun _ _ => .inl (by show _ < m * 3; simp; omega))]
  · exact h3
  · exact h4
  · exact h5
theorem read (h : RowD w0 W g ys) (hb : Below w0.heap.size w0 W) (hm : ys.length ≤ 9223372036854775807) : Kd.C k28 W (some ⟨g, 0, none⟩) ys.length ys := by
  refine ⟨rfl, hm, fun _ => ⟨_, rfl, fun j p hj => ?_⟩⟩
  obtain ⟨hj2, rfl⟩ := List.getElem?_eq_some_iff.1 hj
  obtain ⟨A, c, h1, h2, h3, h4, h5⟩ := h.el j hj2
  refine ⟨[.int .i64 ys[j].f0, .slice A ys[j].f1.length c, .int .i64 ys[j].f2], rfl, k28_mk W _ h1 (Kd.C_below h2 hb), fun t u hu => ?_⟩
  have ht : t < 3 := (List.getElem?_eq_some_iff.1 hu).1
  have ea : (⟨g, 0, none⟩ : Addr).add (j * 3 + t) = ⟨g, j * 3 + t, none⟩ := by rw [Addr.add_lit, Nat.zero_add]
  show W.cell? ((⟨g, 0, none⟩ : Addr).add (j * 3 + t)) = some u
  rw [ea]
  match t, ht with
  | 0, _ => cases hu; exact h3
  | 1, _ => cases hu; exact h4
  | 2, _ => cases hu; exact h5
end RowD
/-- clear of a part of the row. -/
theorem run_clear_d {w0 W : World} {g : Nat} {ys : List S28} (h : RowD w0 W g ys) (m n c : Nat) (hn : 0 < n) (hm : m + n ≤ ys.length) :
    ∃ vs : List Value, ∀ ty, (Builtin.clear_ #[22] ty #[.slice (some ⟨g, m * 3, none⟩) n c]).run Tryd.prog W = .ok (.tuple #[]) (W.setCells g (m * 3) vs) := by
  refine ⟨(Builtin.zeroCells (Value.agg #[(.int .i64 0), (.slice none 0 0), (.int .i64 0)]).cells n).toList, fun ty => ?_⟩
  have hlen : (Builtin.zeroCells (Value.agg #[(.int .i64 0), (.slice none 0 0), (.int .i64 0)]).cells n).toList.length = n * 3 := by simp [Builtin.zeroCells, Value.cells]
  have hst := run_storeCells_cells (P := Tryd.prog) g (m * 3) (Builtin.zeroCells (Value.agg #[(.int .i64 0), (.slice none 0 0), (.int .i64 0)]).cells n).toList 0 W (fun j hj => ?_) (fun j hj => h.fz _) (fun v hv => ?_)
  · simp only [Nat.add_zero] at hst
    obtain ⟨q, rfl⟩ : ∃ q, n = q + 1 := ⟨n - 1, by omega⟩
    simp [Builtin.clear_, run_underlying Tryd.underlying22, Tryd.zeroValue28, hst]
  · rw [hlen] at hj
    obtain ⟨A, c, h1, h2, h3, h4, h5⟩ := h.el (m + j / 3) (by omega)
    have hj3 : j % 3 < 3 := by omega
    match hq : j % 3, hj3 with
    | 0, _ => rw [show m * 3 + 0 + j = (m + j / 3) * 3 by omega, h3]; rfl
    | 1, _ => rw [show m * 3 + 0 + j = (m + j / 3) * 3 + 1 by omega, h4]; rfl
    | 2, _ => rw [show m * 3 + 0 + j = (m + j / 3) * 3 + 2 by omega, h5]; rfl
  · simp only [Builtin.zeroCells, Value.cells, Array.toList_map, List.mem_map] at hv
    obtain ⟨i, _, rfl⟩ := hv
    have hj3 : i % 3 < 3 := by omega
    show (#[(Value.int .i64 0), (.slice none 0 0), (.int .i64 0)][i % 3]!).oneCell' = true
    match i % 3, hj3 with
    | 0, _ => rfl
    | 1, _ => rfl
    | 2, _ => rfl
theorem alloc3 (W : World) (a b c : Value) (t : TypeId) : (W.alloc (.cells #[a, b, c] t)).heap[W.heap.size]? = some (.cells #[a, b, c] t (0, 0)) := by
  show (W.heap.push _)[W.heap.size]? = _
  simp
theorem below_setCellsD {B g : Nat} (hg : B ≤ g) : ∀ (vs : List Value) (o : Nat) (w : World), Below B w (w.setCells g o vs)
  | [], _, w => Below.refl B w
  | v :: r, o, w => ((Below.refl B w).setCell (p := ⟨g, o, none⟩) hg v).trans (below_setCellsD hg r (o + 1) _)
theorem below_down {B C : Nat} {w w' : World} (h : Below C w w') (hB : B ≤ C) : Below B w w' := ⟨h.os, h.tape, h.output, h.size, fun k hk => h.block k (Nat.lt_of_lt_of_le hk hB)⟩
theorem filter_take {p : S28 → Bool} {xs : List S28} {i : Nat} (hi : xs.findIdx p = i) (hl : i < xs.length) : xs.take i = (xs.take (i + 1)).filter (fun x => !p x) := by
  rw [List.take_add_one, List.filter_append, List.getElem?_eq_getElem hl]
  have h1 : p xs[i] = true := by
    have := List.findIdx_getElem (p := p) (xs := xs) (w := by omega)
    simp only [hi] at this; exact this
  rw [show (Option.toList (some xs[i])) = [xs[i]] from rfl, List.filter_cons, h1]
  simp only [Bool.not_true, Bool.false_eq_true, if_false, List.filter_nil, List.append_nil]
  symm
  rw [List.filter_eq_self]
  intro a ha
  obtain ⟨k, hk, rfl⟩ := List.getElem_of_mem ha
  rw [List.length_take] at hk
  rw [List.getElem_take]
  simpa using List.not_of_lt_findIdx (p := p) (xs := xs) (i := k) (by omega)
set_option maxHeartbeats 8000000 in
set_option maxRecDepth 1000000 in
theorem deleteFunc {g' : Nat} {cb : Array Value} {p : S28 → Bool} {w0 : World} (hp : PredOk g' cb p w0) (base : Nat) (v : Value) (xs : List S28) (w1 : World) (hb0 : Below w0.heap.size w0 w1) (hbase : w0.heap.size ≤ base) (hbs : base ≤ w1.heap.size) (HN : NR w0 w1 base v xs) :
    Calls Tryd.prog 67 #[v, .func (.func g') #[] cb] w1 fun e w2 => ∃ A c, e = .returned (.slice A (xs.filter (fun x => !p x)).length c) ∧ (xs.filter (fun x => !p x)).length ≤ c ∧ Kd.C k28 w2 A (xs.filter (fun x => !p x)).length (xs.filter (fun x => !p x)) ∧ Below base w1 w2 := by
  by_cases hm : xs.findIdx p < xs.length
  · have hxl : 0 < xs.length := by omega
    obtain ⟨inner, ho, hr⟩ := HN
    rcases ho.2 with ⟨rfl, h0⟩ | ⟨g, cap, cur, rfl, hg, hh, hcap, hmax, hsz, htk⟩
    · omega
    have hR := RowD.row_of (base := base) (n := 0) (cap := 0) (g := g) hh htk hr
    have hm0 : xs.length ≤ 9223372036854775807 := by simp only [maxLen] at hmax; omega
    obtain ⟨i0, hi0⟩ : ∃ i0, i0 = xs.findIdx p := ⟨_, rfl⟩
    have hI := indexFunc hp (some ⟨g, 0, none⟩) cap xs w1 hb0 (hR.read hb0 hm0)
    rw [show idx p xs = (i0 : Int) by unfold idx; rw [if_pos hm, hi0]] at hI
    have HI := Aside0.mk hI
    have HRW := Aside0.mk (hR.below (Below.refl w1.heap.size w1) (Array.getElem?_eq_some_iff.1 hh).1)
    have HG := Aside0.mk hg
    have HG1 := Aside0.mk (Array.getElem?_eq_some_iff.1 hh).1
    have HB0 := Aside0.mk hb0
    have HBA := Aside0.mk hbase
    have HBS := Aside0.mk hbs
    clear hbs
    have HP := Aside0.mk hp.ok
    have eg := hp.eg
    have hil : i0 < xs.length := by omega
    have HI0 := Aside0.mk hi0.symm
    have HCAP : xs.length ≤ cap := hcap
    have hcm : cap ≤ 9223372036854775807 := by simp only [maxLen] at hmax; exact hmax
    have hne : decide ((i0 : Int) = -1) = false := decide_eq_false (by omega)
    have hnb : ((i0 : Int) == -1) = false := by simp
    clear hI hp hm hR hg hh htk hsz ho hr hb0 hbase hmax hi0 hcap
    go_enter Tryd.func67, Tryd.ntmps67
    go_wp2_with fail
    refine HI.out.mono ?_
    rintro e w2 ⟨rfl, hb2⟩
    have HB2 := Aside0.mk (show Below base w1 w2 from below_down hb2 HBS.out)
    have HR2 := Aside0.mk (HRW.out.below hb2 HG1.out)
    clear hb2 HI HRW
    go_wp2
    go_loopg [5, 6] xs.length (fun kq v5 v6 wr => ∃ (i j : Nat) (ys : List S28), v5 = .int .i64 i ∧ v6 = .int .i64 j ∧ i < j ∧ j ≤ xs.length ∧ j + kq = xs.length + i0 + 1 ∧ Aside0 (ys.length = xs.length) ∧ Aside0 (ys.take i = (xs.take j).filter (fun x => !p x) ∧ ys.drop j = xs.drop j) ∧ Aside0 (RowD w0 wr g ys) ∧ Aside0 (Below base w1 wr))
    case atStart => exact ⟨i0, i0 + 1, xs, rfl, by go_num, by omega, by omega, by omega, ⟨rfl⟩, ⟨filter_take HI0.out hil, rfl⟩, HR2, HB2⟩
    case round =>
      clear HR2 HB2
      obtain ⟨i, j, ys, rfl, rfl, hij, hjn, hkq, HL, HY, HR, HB⟩ := hrel
      by_cases hj : j < xs.length
      · have hjy : j < ys.length := by rw [HL.out]; exact hj
        have hjz : (j : Int) < (xs.length : Int) := by omega
        obtain ⟨A, c, q1, q2, x0, x1, x2⟩ := HR.out.el j hjy
        obtain ⟨x, hx⟩ : ∃ x, x = ys[j] := ⟨_, rfl⟩
        rw [← hx] at q1 q2 x0 x1 x2
        have HXJ := Aside0.mk (show xs.take (j + 1) = xs.take j ++ [x] ∧ ys.drop (j + 1) = xs.drop (j + 1) by
          have h1 := HY.out.2
          have h2 : xs[j] = ys[j] := by
            have e := congrArg (fun l => l[0]?) h1
            simp only [List.getElem?_drop, Nat.add_zero, List.getElem?_eq_getElem hjy, List.getElem?_eq_getElem hj] at e
            exact (Option.some.inj e).symm
          refine ⟨by rw [List.take_add_one, List.getElem?_eq_getElem hj, h2, hx]; rfl, ?_⟩
          have e := congrArg List.tail h1
          simpa [List.tail_drop] using e)
        have hbw := below_to HB0.out HB.out HBA.out
        have HV := Aside0.mk (fun o => HP.out (wr.alloc o) (below_alloc hbw o) x A c q1 (Kd.C_below q2 (below_alloc hbw o)))
        have Q1 := Aside0.mk q1
        have Q2 := Aside0.mk q2
        have gw : g < wr.heap.size := Nat.lt_of_lt_of_le HG1.out HB.out.size
        obtain ⟨pv, hpv⟩ : ∃ b, b = p x := ⟨_, rfl⟩
        rw [← hpv] at HV
        have HPV := Aside0.mk hpv
        clear hpv hx hbw q1 q2
        go_wp2_with fail
        refine (HV.out _).mono ?_
        rintro e w3 ⟨rfl, hb3⟩
        have HB3 := Aside0.mk hb3
        have HBW := Aside0.mk (below_to (below_alloc (Below.refl wr.heap.size wr) (.cells #[.int .i64 x.f0, .slice A x.f1.length c, .int .i64 x.f2] 28)) hb3 (below_alloc (Below.refl wr.heap.size wr) _).size)
        have HR3 := Aside0.mk (HR.out.below HBW.out gw)
        have HB4 := Aside0.mk (below_to HB.out HBW.out (Nat.le_trans HBS.out HB.out.size))
        clear hb3 HV x0 x1 x2
        cases pv with
        | true =>
          go_wp2
          go_roundg (xs.length + i0 + 1 - (j + 1))
          case measure => omega
          case rel =>
            refine ⟨i, j + 1, ys, rfl, by go_num, by omega, by omega, by omega, HL, ⟨?_, HXJ.out.2⟩, HR3, HB4⟩
            rw [HXJ.out.1, List.filter_append, ← HY.out.1, List.filter_cons, ← HPV.out]
            simp
        | false =>
          have hiy : i < ys.length := by omega
          have hiz : (i : Int) < (xs.length : Int) := by omega
          obtain ⟨A', c', _, _, y0, y1, y2⟩ := HR3.out.el i hiy
          have z0 : w3.cell? ⟨wr.heap.size, 0, none⟩ = some (.int .i64 x.f0) := pw_cell_below HB3.out (by unfold World.cell?; rw [alloc3]; rfl)
          have z1 : w3.cell? ⟨wr.heap.size, 1, none⟩ = some (.slice A x.f1.length c) := pw_cell_below HB3.out (by unfold World.cell?; rw [alloc3]; rfl)
          have z2 : w3.cell? ⟨wr.heap.size, 2, none⟩ = some (.int .i64 x.f2) := pw_cell_below HB3.out (by unfold World.cell?; rw [alloc3]; rfl)
          have fz := HR3.out.fz
          have HR5 := Aside0.mk (HR3.out.put hiy x Q1.out Q2.out)
          go_upto_region 10 with (fail)
          have HB5 := Aside0.mk (((HB4.out.setCell (p := ⟨g, i * 3, none⟩) HG.out (.int .i64 x.f0)).setCell (p := ⟨g, i * 3 + 1, none⟩) HG.out (.slice A x.f1.length c)).setCell (p := ⟨g, i * 3 + 2, none⟩) HG.out (.int .i64 x.f2))
          clear y0 y1 y2 z0 z1 z2 fz
          generalize ((w3.setCell ⟨g, i * 3, none⟩ (.int .i64 x.f0)).setCell ⟨g, i * 3 + 1, none⟩ (.slice A x.f1.length c)).setCell ⟨g, i * 3 + 2, none⟩ (.int .i64 x.f2) = w9 at HR5 HB5 ⊢
          go_wp2
          go_roundg (xs.length + i0 + 1 - (j + 1))
          case measure => omega
          case rel =>
            refine ⟨i + 1, j + 1, ys.set i x, by go_num, by go_num, by omega, by omega, by omega, ⟨by rw [List.length_set]; exact HL.out⟩, ⟨?_, ?_⟩, HR5, HB5⟩
            · rw [HXJ.out.1, List.filter_append, ← HY.out.1, List.filter_cons, ← HPV.out, List.take_add_one, List.getElem?_set_self hiy, List.take_set_of_le (Nat.le_refl _)]
              simp
            · rw [List.drop_set_of_lt (by omega)]; exact HXJ.out.2
      · obtain rfl : j = xs.length := by omega
        have hic : i < cap := by omega
        have hicz : (i : Int) < (cap : Int) := by omega
        obtain ⟨vs, hvs⟩ := run_clear_d HR.out i (xs.length - i) (cap - i) (by omega) (by rw [HL.out]; omega)
        have HR5 := Aside0.mk (HR.out.cut i vs)
        have HB5 := Aside0.mk (below_setCellsD HG.out vs (i * 3) wr)
        have HFL : Aside0 (ys.take i = xs.filter (fun x => !p x)) := ⟨by rw [HY.out.1, List.take_of_length_le (Nat.le_refl _)]⟩
        go_wp2
        go_ret
        have hlen : (ys.take i).length = i := by rw [List.length_take, HL.out]; omega
        have HB6 := HB.out.trans HB5.out
        have hC := HR5.out.read (below_to HB0.out HB6 HBA.out) (by rw [hlen]; omega)
        rw [← HFL.out]
        exact ⟨some ⟨g, 0, none⟩, cap, (by rw [hlen]; rfl), (by rw [hlen]; omega), hC, HB6⟩
  · obtain ⟨A, c, rfl, hl, hC⟩ := NR.read HN hb0
    have hI := indexFunc hp A c xs w1 hb0 hC
    rw [show idx p xs = -1 by unfold idx; rw [if_neg hm]] at hI
    have HI := Aside0.mk hI
    have HF : xs.filter (fun x => !p x) = xs := by
      rw [List.filter_eq_self]
      intro a ha
      obtain ⟨k, hk, rfl⟩ := List.getElem_of_mem ha
      simpa using List.not_of_lt_findIdx (p := p) (xs := xs) (i := k) (by omega)
    have HF := Aside0.mk HF
    have HC := Aside0.mk hC
    have HLL := Aside0.mk hl
    have HBS := Aside0.mk hbs
    clear hbs
    clear HN hp hb0 hbase hm hI hC hl
    go_enter Tryd.func67, Tryd.ntmps67
    go_wp2_with fail
    refine HI.out.mono ?_
    rintro e w2 ⟨rfl, hb2⟩
    have HB2 := Aside0.mk hb2
    clear hb2 HI
    go_wp2
    go_ret
    rw [HF.out]
    exact ⟨A, c, rfl, HLL.out, Kd.C_below HC.out HB2.out, below_down HB2.out HBS.out⟩

end

/-! ### delta_Upto: function 12 -/
section
open Go Go.RowKit Go.Proofs.YtgbodlghggkmoaaDoorW.PrintWords Go.Proofs.YtgbodlghggkmoaaDoorW.PrintLast Go.Proofs.YtgbodlghggkmoaaDoorW.PrintMore Go.Proofs.YtgbodlghggkmoaaDoor.Or
open Go.Proofs Go.Proofs.YtgbodlghggkmoaaDoor.Srt
open Go.Sort (SWO flatK size_flatK get_flatK HoldsK grow)
theorem okD_filter_Upto {l : List S28} (h : OkD l) (p : S28 → Bool) : OkD (l.filter p) := ⟨Nat.le_trans (List.length_filter_le _ _) h.1, fun x hx => h.2 x (List.mem_filter.1 hx).1⟩
def delta_Upto.f (l0 : List (S28)) (a1 : Int) : Option (List (S28)) := if OkD l0 then some (consD (l0.filter (fun x => !decide (x.f0 > a1)))) else none
set_option maxHeartbeats 8000000 in
set_option maxRecDepth 1000000 in
theorem delta_Upto.calls (A0 : Option Addr) (c0 : Nat) (l0 : List (S28)) (a1 : Int) (r : List (S28)) (w : World) (hr0 : Kd.C k28 w A0 l0.length l0) (hc0 : l0.length ≤ c0) (h : delta_Upto.f l0 a1 = some r) :
    Calls Tryd.prog 12 #[.slice A0 l0.length c0, .int .i64 a1] w fun e w' => ∃ v0_ : Value, e = .returned (v0_) ∧ Kd.V k28 28 w' w.heap.size (fun k_ => (w.heap.size ≤ k_)) v0_ r ∧ Below w.heap.size w w' := by
  unfold delta_Upto.f at h
  split at h
  rotate_left
  · cases h
  rename_i hok
  have HRR := Aside0.mk (Option.some.inj h)
  have hba := below_alloc (Below.refl w.heap.size w) (.cells #[.int .i64 a1] 3)
  have hcl := clone_nr A0 c0 l0 (w.alloc (.cells #[.int .i64 a1] 3)) (Kd.C_below hr0 hba) hok.1
  have hpd := uptoPred a1 w.heap.size (w.alloc (.cells #[.int .i64 a1] 3)) (by unfold World.cell?; show (match (w.heap.push _)[w.heap.size]? with | some (Obj.cells c _ _) => _ | _ => _) = _; simp)
  have HC := Aside0.mk hcl
  have HP := Aside0.mk hpd
  have HBA := Aside0.mk hba
  have HF := Aside0.mk (show delta_Consolidate.f (l0.filter (fun x => !decide (x.f0 > a1))) = some (consD (l0.filter (fun x => !decide (x.f0 > a1)))) from if_pos (okD_filter_Upto hok _))
  clear hr0 hc0 h hok hba hcl hpd
  go_enter Tryd.func12, Tryd.ntmps12
  go_wp2_with fail
  refine HC.out.mono ?_
  rintro e w1 ⟨v1, rfl, hN, hb1⟩
  have HN := Aside0.mk hN
  have HB1 := Aside0.mk hb1
  clear hN hb1 HC
  go_wp2_with fail
  refine (deleteFunc HP.out (w.alloc (.cells #[.int .i64 a1] 3)).heap.size v1 l0 w1 HB1.out (Nat.le_refl _) HB1.out.size HN.out).mono ?_
  rintro e w2 ⟨A, c, rfl, hl, hC, hb2⟩
  have hl2 := Aside0.mk hl
  have hC2 := Aside0.mk hC
  have HB2 := Aside0.mk (below_to HBA.out (HB1.out.trans hb2) HBA.out.size)
  clear hl hC hb2 HB1 HN
  generalize hxs : l0.filter (fun x => !decide (x.f0 > a1)) = xs at *
  clear hxs
  go_wp2_with fail
  refine (delta_Consolidate.calls A c xs _ w2 hC2.out hl2.out HF.out).mono ?_
  rintro e w3 ⟨v3, rfl, hV, hb3⟩
  have HV := Aside0.mk hV
  have HB3 := Aside0.mk hb3
  clear hV hb3
  go_wp2
  go_ret
  obtain ⟨A', c', rfl, h1, h2⟩ := HV.out
  rw [← HRR.out]
  exact ⟨_, rfl, ⟨A', c', rfl, h1, Kd.F_mono h2 (fun k hk => Nat.le_trans HB2.out.size hk)⟩, below_to HB2.out HB3.out HB2.out.size⟩

end

/-! ### delta_After: function 13 -/
section
open Go Go.RowKit Go.Proofs.YtgbodlghggkmoaaDoorW.PrintWords Go.Proofs.YtgbodlghggkmoaaDoorW.PrintLast Go.Proofs.YtgbodlghggkmoaaDoorW.PrintMore Go.Proofs.YtgbodlghggkmoaaDoor.Or
open Go.Proofs Go.Proofs.YtgbodlghggkmoaaDoor.Srt
open Go.Sort (SWO flatK size_flatK get_flatK HoldsK grow)
theorem okD_filter_After {l : List S28} (h : OkD l) (p : S28 → Bool) : OkD (l.filter p) := ⟨Nat.le_trans (List.length_filter_le _ _) h.1, fun x hx => h.2 x (List.mem_filter.1 hx).1⟩
def delta_After.f (l0 : List (S28)) (a1 : Int) : Option (List (S28)) := if OkD l0 then some (consD (l0.filter (fun x => !decide (x.f0 ≤ a1)))) else none
set_option maxHeartbeats 8000000 in
set_option maxRecDepth 1000000 in
theorem delta_After.calls (A0 : Option Addr) (c0 : Nat) (l0 : List (S28)) (a1 : Int) (r : List (S28)) (w : World) (hr0 : Kd.C k28 w A0 l0.length l0) (hc0 : l0.length ≤ c0) (h : delta_After.f l0 a1 = some r) :
    Calls Tryd.prog 13 #[.slice A0 l0.length c0, .int .i64 a1] w fun e w' => ∃ v0_ : Value, e = .returned (v0_) ∧ Kd.V k28 28 w' w.heap.size (fun k_ => (w.heap.size ≤ k_)) v0_ r ∧ Below w.heap.size w w' := by
  unfold delta_After.f at h
  split at h
  rotate_left
  · cases h
  rename_i hok
  have HRR := Aside0.mk (Option.some.inj h)
  have hba := below_alloc (Below.refl w.heap.size w) (.cells #[.int .i64 a1] 3)
  have hcl := clone_nr A0 c0 l0 (w.alloc (.cells #[.int .i64 a1] 3)) (Kd.C_below hr0 hba) hok.1
  have hpd := afterPred a1 w.heap.size (w.alloc (.cells #[.int .i64 a1] 3)) (by unfold World.cell?; show (match (w.heap.push _)[w.heap.size]? with | some (Obj.cells c _ _) => _ | _ => _) = _; simp)
  have HC := Aside0.mk hcl
  have HP := Aside0.mk hpd
  have HBA := Aside0.mk hba
  have HF := Aside0.mk (show delta_Consolidate.f (l0.filter (fun x => !decide (x.f0 ≤ a1))) = some (consD (l0.filter (fun x => !decide (x.f0 ≤ a1)))) from if_pos (okD_filter_After hok _))
  clear hr0 hc0 h hok hba hcl hpd
  go_enter Tryd.func13, Tryd.ntmps13
  go_wp2_with fail
  refine HC.out.mono ?_
  rintro e w1 ⟨v1, rfl, hN, hb1⟩
  have HN := Aside0.mk hN
  have HB1 := Aside0.mk hb1
  clear hN hb1 HC
  go_wp2_with fail
  refine (deleteFunc HP.out (w.alloc (.cells #[.int .i64 a1] 3)).heap.size v1 l0 w1 HB1.out (Nat.le_refl _) HB1.out.size HN.out).mono ?_
  rintro e w2 ⟨A, c, rfl, hl, hC, hb2⟩
  have hl2 := Aside0.mk hl
  have hC2 := Aside0.mk hC
  have HB2 := Aside0.mk (below_to HBA.out (HB1.out.trans hb2) HBA.out.size)
  clear hl hC hb2 HB1 HN
  generalize hxs : l0.filter (fun x => !decide (x.f0 ≤ a1)) = xs at *
  clear hxs
  go_wp2_with fail
  refine (delta_Consolidate.calls A c xs _ w2 hC2.out hl2.out HF.out).mono ?_
  rintro e w3 ⟨v3, rfl, hV, hb3⟩
  have HV := Aside0.mk hV
  have HB3 := Aside0.mk hb3
  clear hV hb3
  go_wp2
  go_ret
  obtain ⟨A', c', rfl, h1, h2⟩ := HV.out
  rw [← HRR.out]
  exact ⟨_, rfl, ⟨A', c', rfl, h1, Kd.F_mono h2 (fun k hk => Nat.le_trans HB2.out.size hk)⟩, below_to HB2.out HB3.out HB2.out.size⟩

end

/-! ### errataref03_Compare: function 125 -/
section
def errataref03_Compare.f (a0_0 : Int) (a0_1 : Int) (a0_2 : ByteArray) (a1_0 : Int) (a1_1 : Int) (a1_2 : ByteArray) : Option (Int) :=
  if a0_0 < a1_0 then some (-1) else if a1_0 < a0_0 then some 1 else if a0_1 < a1_1 then some (-1) else if a1_1 < a0_1 then some 1 else
    if Op.bytesLess a0_2.toList a1_2.toList = true then some (-1) else if (a0_2.toList == a1_2.toList) = true then some 0 else some 1
set_option maxHeartbeats 8000000 in
set_option maxRecDepth 100000 in
theorem errataref03_Compare.calls (a0_0 : Int) (a0_1 : Int) (a0_2 : ByteArray) (a1_0 : Int) (a1_1 : Int) (a1_2 : ByteArray) (r : Int) (w : World) (h : errataref03_Compare.f a0_0 a0_1 a0_2 a1_0 a1_1 a1_2 = some r) :
    Calls Tryd.prog 125 #[.agg #[.int .i64 a0_0, .int .i64 a0_1, .string a0_2], .agg #[.int .i64 a1_0, .int .i64 a1_1, .string a1_2]] w fun e w' => e = .returned (.int .i64 r) ∧ Below w.heap.size w w' := by
  have HB : ∀ o1 o2, Below w.heap.size w ((w.alloc o1).alloc o2) := fun o1 o2 => below_alloc (below_alloc (Below.refl _ _) o1) o2
  have HB := Aside0.mk HB
  unfold errataref03_Compare.f at h
  by_cases c1 : a0_0 < a1_0
  · rw [if_pos c1] at h
    obtain rfl := Option.some.inj h
    go_enter Tryd.func125, Tryd.ntmps125
    go_wp2
    go_ret
    exact ⟨rfl, HB.out _ _⟩
  rw [if_neg c1] at h
  by_cases c2 : a1_0 < a0_0
  · rw [if_pos c2] at h
    obtain rfl := Option.some.inj h
    go_enter Tryd.func125, Tryd.ntmps125
    go_wp2
    go_ret
    exact ⟨rfl, HB.out _ _⟩
  rw [if_neg c2] at h
  by_cases c3 : a0_1 < a1_1
  · rw [if_pos c3] at h
    obtain rfl := Option.some.inj h
    go_enter Tryd.func125, Tryd.ntmps125
    go_wp2
    go_ret
    exact ⟨rfl, HB.out _ _⟩
  rw [if_neg c3] at h
  by_cases c4 : a1_1 < a0_1
  · rw [if_pos c4] at h
    obtain rfl := Option.some.inj h
    go_enter Tryd.func125, Tryd.ntmps125
    go_wp2
    go_ret
    exact ⟨rfl, HB.out _ _⟩
  rw [if_neg c4] at h
  by_cases c5 : Op.bytesLess a0_2.toList a1_2.toList = true
  · rw [if_pos c5] at h
    obtain rfl := Option.some.inj h
    go_enter Tryd.func125, Tryd.ntmps125
    go_wp2
    go_ret
    exact ⟨rfl, HB.out _ _⟩
  rw [if_neg c5] at h
  have c5' : Op.bytesLess a0_2.toList a1_2.toList = false := Bool.eq_false_iff.mpr c5
  clear c5
  by_cases c6 : (a0_2.toList == a1_2.toList) = true
  · rw [if_pos c6] at h
    obtain rfl := Option.some.inj h
    go_enter Tryd.func125, Tryd.ntmps125
    go_wp2
    go_ret
    exact ⟨rfl, HB.out _ _⟩
  · rw [if_neg c6] at h
    have c6' : (a0_2.toList == a1_2.toList) = false := Bool.eq_false_iff.mpr c6
    clear c6
    obtain rfl := Option.some.inj h
    go_enter Tryd.func125, Tryd.ntmps125
    go_wp2
    go_ret
    exact ⟨rfl, HB.out _ _⟩

end

/-! ### errataref03_CompareRows: function 102 -/
mutual
def errataref03_CompareRows.l0 : Nat → List (S79) → List (S79) → Int → Option (Int)
  | 0, _, _, _ => none
  | k + 1, x0, x1, x5 => if x5 < (x0.length : Int) then (errataref03_CompareRows.j1 k x0 x1 x5 (decide (x5 < (x1.length : Int)))) else (errataref03_CompareRows.j1 k x0 x1 x5 false)
def errataref03_CompareRows.j1 : Nat → List (S79) → List (S79) → Int → Bool → Option (Int)
  | 0, _, _, _, _ => none
  | k + 1, x0, x1, x5, x16 => if x16 = true then (if 0 ≤ x5 then (if x5 < (x0.length : Int) then (if x5 < (x1.length : Int) then ((errataref03_Compare.f ((rd_T79 x0 x5).f0) ((rd_T79 x0 x5).f1) ((rd_T79 x0 x5).f2) ((rd_T79 x1 x5).f0) ((rd_T79 x1 x5).f1) ((rd_T79 x1 x5).f2)).bind fun t123 => (if t123 = 0 then (errataref03_CompareRows.l0 k x0 x1 (wrap64 (x5 + 1))) else (some t123))) else (none)) else (none)) else (none)) else (if (x0.length : Int) < (x1.length : Int) then (some (-1)) else (if (x0.length : Int) > (x1.length : Int) then (some 1) else (some 0)))
end
def errataref03_CompareRows.f (k : Nat) (l0 : List (S79)) (l1 : List (S79)) : Option (Int) := errataref03_CompareRows.l0 k l0 l1 0
theorem errataref03_CompareRows.mono_l : ∀ k, (∀ y0 y1 y2, LeO (errataref03_CompareRows.l0 k y0 y1 y2) (errataref03_CompareRows.l0 (k + 1) y0 y1 y2)) ∧ (∀ y0 y1 y2 y3, LeO (errataref03_CompareRows.j1 k y0 y1 y2 y3) (errataref03_CompareRows.j1 (k + 1) y0 y1 y2 y3))
  | 0 => ⟨fun _ _ _ r h => by simp [errataref03_CompareRows.l0] at h, fun _ _ _ _ r h => by simp [errataref03_CompareRows.j1] at h⟩
  | k + 1 => by
    obtain ⟨ih0, ih1⟩ := errataref03_CompareRows.mono_l k
    refine ⟨?_, ?_⟩
    · intro y0 y1 y2
      unfold errataref03_CompareRows.l0
      repeat' first
      | (with_reducible exact ih0 _ _ _)
      | (with_reducible exact ih1 _ _ _ _)
      | (with_reducible exact LeO.refl _)
      | (with_reducible exact LeO.none _)
      | (with_reducible refine LeO.ite ?_ ?_)
      | (with_reducible refine LeO.bind ?_ (fun _ => ?_))
      | exact ih0 _ _ _
      | exact ih1 _ _ _ _
      | exact LeO.none _
      | refine LeO.ite ?_ ?_
      | refine LeO.bind ?_ (fun _ => ?_)
    · intro y0 y1 y2 y3
      unfold errataref03_CompareRows.j1
      repeat' first
      | (with_reducible exact ih0 _ _ _)
      | (with_reducible exact ih1 _ _ _ _)
      | (with_reducible exact LeO.refl _)
      | (with_reducible exact LeO.none _)
      | (with_reducible refine LeO.ite ?_ ?_)
      | (with_reducible refine LeO.bind ?_ (fun _ => ?_))
      | exact ih0 _ _ _
      | exact ih1 _ _ _ _
      | exact LeO.none _
      | refine LeO.ite ?_ ?_
      | refine LeO.bind ?_ (fun _ => ?_)
theorem errataref03_CompareRows.mono : ∀ a0 a1 k, LeO (errataref03_CompareRows.f k a0 a1) (errataref03_CompareRows.f (k + 1) a0 a1) := by
  intro a0 a1 k
  obtain ⟨ih0, ih1⟩ := errataref03_CompareRows.mono_l k
  unfold errataref03_CompareRows.f
  repeat' first
      | (with_reducible exact ih0 _ _ _)
      | (with_reducible exact ih1 _ _ _ _)
      | (with_reducible exact LeO.refl _)
      | (with_reducible exact LeO.none _)
      | (with_reducible refine LeO.ite ?_ ?_)
      | (with_reducible refine LeO.bind ?_ (fun _ => ?_))
      | exact ih0 _ _ _
      | exact ih1 _ _ _ _
      | exact LeO.none _
      | refine LeO.ite ?_ ?_
      | refine LeO.bind ?_ (fun _ => ?_)
def errataref03_CompareRows.T4 : Bool × List (List Nat × List Nat) := (true, [([], []), ([], []), ([0, 1], [0, 1]), ([2], [2]), ([], []), ([], []), ([4, 5], [4, 5]), ([6], [6]), ([3, 7], [3, 7]), ([8, 8, 0, 1, 2, 3, 4, 5, 6, 7, 8], [8])])
def errataref03_CompareRows.B4 : List Nat := [0, 0, 3, 7, 0, 0, 48, 112, 255, 511]
theorem errataref03_CompareRows.tab4 : rtab .any (opsOf Tryd.f102 4) = errataref03_CompareRows.T4 := by kernel_rfl
theorem errataref03_CompareRows.bits4 : waitsOk errataref03_CompareRows.T4.2 errataref03_CompareRows.B4 = true := by kernel_rfl
set_option maxHeartbeats 8000000 in
set_option maxRecDepth 100000 in
theorem errataref03_CompareRows.calls (k : Nat) (A0 : Option Addr) (c0 : Nat) (l0 : List (S79)) (A1 : Option Addr) (c1 : Nat) (l1 : List (S79)) (r : Int) (w : World) (hr0 : Kd.C k79 w A0 l0.length l0) (hc0 : l0.length ≤ c0) (hr1 : Kd.C k79 w A1 l1.length l1) (hc1 : l1.length ≤ c1) (h : errataref03_CompareRows.f k l0 l1 = some r) :
    Calls Tryd.prog 102 #[.slice A0 l0.length c0, .slice A1 l1.length c1] w fun e w' => e = .returned (.int .i64 r) ∧ Below w.heap.size w w' := by
  have hu79 := Tryd.underlying79
  have HR0 := Aside0.mk hr0
  have HC0 := Aside0.mk hc0
  clear hr0 hc0
  have HR1 := Aside0.mk hr1
  have HC1 := Aside0.mk hc1
  clear hr1 hc1
  have HB := Aside0.mk (Below.refl w.heap.size w)
  have H : (errataref03_CompareRows.l0 k l0 l1 0) = some r := h
  clear h
  have H' := Aside0.mk H
  clear H
  go_enter Tryd.func102, Tryd.ntmps102
  go_wp2
  go_loopg [5] k (fun kq v5 w' => ∃ (x5_1 : Int), v5 = .int .i64 x5_1 ∧ Aside0 (errataref03_CompareRows.l0 kq l0 l1 x5_1 = some r) ∧ Aside0 (kq ≤ k) ∧ Aside0 (Below w.heap.size w w'))
  case atStart => exact ⟨(0), (by first | rfl | (simp; done) | (simp [*]; done)), H', ⟨Nat.le_refl _⟩, ⟨by repeat (first | (with_reducible first | exact HB.out | apply below_alloc | apply pw_below_drewN | apply below_drew1) | exact HB.out)⟩⟩
  case round =>
    clear H'
    try clear c1
    try clear p2
    obtain ⟨x5_1, rfl, HA, HK1, HB⟩ := hrel
    cases gk with
    | zero => exact absurd HA.out (by simp [errataref03_CompareRows.l0])
    | succ k1 =>
      have H := HA.out
      clear HA
      simp only [errataref03_CompareRows.l0] at H
      have HC3 := Aside0.mk H
      clear H
      go_upto_region 2 with (fail)
      go_cut [16] (fun v16 wc => ∃ (kq : Nat) (x16_2 : Bool), v16 = .bool x16_2 ∧ Aside0 (errataref03_CompareRows.j1 kq l0 l1 x5_1 x16_2 = some r) ∧ Aside0 (kq ≤ k1) ∧ Aside0 (Below w.heap.size w wc))
      case first =>
        have H := HC3.out
        clear HC3
        by_cases c4 : x5_1 < (l0.length : Int)
        · rw [if_pos c4] at H
          have c4b0 : decide (x5_1 < (l0.length : Int)) = true := decide_eq_true c4
          clear c4
          (first | rw [c4b0] | (simp only [i64_w, i32_w]; rw [c4b0]) | skip)
          have H' := Aside0.mk H
          clear H
          go_wp2
          go_meet
          case rel => exact ⟨_, (decide (x5_1 < (l1.length : Int))), (by first | rfl | (simp; done) | (simp [*]; done)), H', ⟨by have := HK1.out; first | omega | exact Nat.le_refl _⟩, ⟨by repeat (first | (with_reducible first | exact HB.out | apply below_alloc | apply pw_below_drewN | apply below_drew1) | exact HB.out)⟩⟩
        · rw [if_neg c4] at H
          have c4b0 : decide (x5_1 < (l0.length : Int)) = false := decide_eq_false c4
          clear c4
          (first | rw [c4b0] | (simp only [i64_w, i32_w]; rw [c4b0]) | skip)
          have H' := Aside0.mk H
          clear H
          go_wp2
          go_meet
          case rel => exact ⟨_, (false), (by first | rfl | (simp; done) | (simp [*]; done)), H', ⟨by have := HK1.out; first | omega | exact Nat.le_refl _⟩, ⟨by repeat (first | (with_reducible first | exact HB.out | apply below_alloc | apply pw_below_drewN | apply below_drew1) | exact HB.out)⟩⟩
      case rest =>
        clear HC3
        try clear c1
        try clear p2
        try clear c4
        try clear c4b0
        try clear p2
        obtain ⟨kq, x16_2, rfl, HA, HJ2, HB⟩ := hcut
        cases kq with
        | zero => exact absurd HA.out (by simp [errataref03_CompareRows.j1])
        | succ kj2 =>
          have H := HA.out
          clear HA
          simp only [errataref03_CompareRows.j1] at H
          by_cases c5 : x16_2 = true
          · subst c5
            have H1 : (if 0 ≤ x5_1 then (if x5_1 < (l0.length : Int) then (if x5_1 < (l1.length : Int) then ((errataref03_Compare.f ((rd_T79 l0 x5_1).f0) ((rd_T79 l0 x5_1).f1) ((rd_T79 l0 x5_1).f2) ((rd_T79 l1 x5_1).f0) ((rd_T79 l1 x5_1).f1) ((rd_T79 l1 x5_1).f2)).bind fun t123 => (if t123 = 0 then (errataref03_CompareRows.l0 kj2 l0 l1 (wrap64 (x5_1 + 1))) else (some t123))) else (none)) else (none)) else (none)) = some r := by rw [if_pos rfl] at H; exact H
            clear H
            have H := H1
            clear H1
            by_cases c6 : 0 ≤ x5_1
            · rw [if_pos c6] at H
              have c6b0 : decide (0 ≤ x5_1) = true := decide_eq_true c6
              clear c6
              by_cases c7 : x5_1 < (l0.length : Int)
              · rw [if_pos c7] at H
                have c7b0 : decide (x5_1 < (l0.length : Int)) = true := decide_eq_true c7
                clear c7
                by_cases c8 : x5_1 < (l1.length : Int)
                · rw [if_pos c8] at H
                  have c8b0 : decide (x5_1 < (l1.length : Int)) = true := decide_eq_true c8
                  clear c8
                  replace H := Option.bind_eq_some_iff.mp H
                  obtain ⟨t123, A90, H⟩ := H
                  replace H : (if t123 = 0 then (errataref03_CompareRows.l0 kj2 l0 l1 (wrap64 (x5_1 + 1))) else (some t123)) = some r := H
                  have A9 := Aside0.mk A90
                  clear A90
                  by_cases c10 : t123 = 0
                  · rw [if_pos c10] at H
                    have c10b0 : (t123 == 0) = true := beq_iff_eq.mpr c10
                    have c10b1 : (t123 != 0) = false := bne_eq_false_iff_eq.mpr c10
                    clear c10
                    have H' := Aside0.mk H
                    clear H
                    try go_wp2
                    have n0_ := Aside0.mk (below_drew1 HB.out)
                    clear HB
                    have HB := n0_
                    clear n0_
                    have p121 : 0 ≤ (x5_1 : Int) := of_decide_eq_true (by first | (with_reducible assumption) | assumption)
                    have q121 : x5_1 < (l0.length : Int) := of_decide_eq_true (by first | (with_reducible assumption) | assumption)
                    obtain ⟨ad121, e121, hx121_0, hx121_1, hx121_2⟩ := at_T79 HR0.out x5_1 p121 q121
                    have hw121_2 := hx121_2
                    have hw121_1 := hx121_1
                    have hw121_0 := hx121_0
                    cases e121
                    replace hx121_0 := (HB.out.cell (World.block_lt_of_cell? w _ hx121_0)).trans hx121_0
                    replace hx121_1 := (HB.out.cell (World.block_lt_of_cell? w _ hx121_1)).trans hx121_1
                    replace hx121_2 := (HB.out.cell (World.block_lt_of_cell? w _ hx121_2)).trans hx121_2
                    replace p121 := eq_true p121
                    replace q121 := eq_true q121
                    have p122 : 0 ≤ (x5_1 : Int) := of_decide_eq_true (by first | (with_reducible assumption) | assumption)
                    have q122 : x5_1 < (l1.length : Int) := of_decide_eq_true (by first | (with_reducible assumption) | assumption)
                    obtain ⟨ad122, e122, hx122_0, hx122_1, hx122_2⟩ := at_T79 HR1.out x5_1 p122 q122
                    have hw122_2 := hx122_2
                    have hw122_1 := hx122_1
                    have hw122_0 := hx122_0
                    cases e122
                    replace hx122_0 := (HB.out.cell (World.block_lt_of_cell? w _ hx122_0)).trans hx122_0
                    replace hx122_1 := (HB.out.cell (World.block_lt_of_cell? w _ hx122_1)).trans hx122_1
                    replace hx122_2 := (HB.out.cell (World.block_lt_of_cell? w _ hx122_2)).trans hx122_2
                    replace p122 := eq_true p122
                    replace q122 := eq_true q122
                    refine start_ (n := 10) (S := fun w' => w'.cell? (ad121.add ((x5_1).toNat * 3)) = some (.int .i64 ((rd_T79 l0 x5_1).f0)) ∧ w'.cell? ⟨(ad121.add ((x5_1).toNat * 3)).block, (ad121.add ((x5_1).toNat * 3)).off + 1, none⟩ = some (.int .i64 ((rd_T79 l0 x5_1).f1)) ∧ w'.cell? ⟨(ad121.add ((x5_1).toNat * 3)).block, (ad121.add ((x5_1).toNat * 3)).off + 2, none⟩ = some (.string ((rd_T79 l0 x5_1).f2)) ∧ w'.cell? (ad122.add ((x5_1).toNat * 3)) = some (.int .i64 ((rd_T79 l1 x5_1).f0)) ∧ w'.cell? ⟨(ad122.add ((x5_1).toNat * 3)).block, (ad122.add ((x5_1).toNat * 3)).off + 1, none⟩ = some (.int .i64 ((rd_T79 l1 x5_1).f1)) ∧ w'.cell? ⟨(ad122.add ((x5_1).toNat * 3)).block, (ad122.add ((x5_1).toNat * 3)).off + 2, none⟩ = some (.string ((rd_T79 l1 x5_1).f2))) (ds := []) #[false, false, false, false, false, false, false, false, false, false] (by kernel_rfl) rfl rfl ⟨((HB.out.cell (World.block_lt_of_cell? w _ hw121_0)).trans hw121_0), ((HB.out.cell (World.block_lt_of_cell? w _ hw121_1)).trans hw121_1), ((HB.out.cell (World.block_lt_of_cell? w _ hw121_2)).trans hw121_2), ((HB.out.cell (World.block_lt_of_cell? w _ hw122_0)).trans hw122_0), ((HB.out.cell (World.block_lt_of_cell? w _ hw122_1)).trans hw122_1), ((HB.out.cell (World.block_lt_of_cell? w _ hw122_2)).trans hw122_2)⟩ (fun hHeld => ?_); refine with_tabW errataref03_CompareRows.tab4 errataref03_CompareRows.bits4 (fun HT_ HW_ => ?_)
                    generalize wc.drew = w11 at HB hx121_0 hx121_1 hx121_2 hx122_0 hx122_1 hx122_2 hHeld ⊢
                    refine pure_ (i := 0) (N := some 19) (v := ?_) (a' := ?_) #[true, false, false, false, false, false, false, false, false, false] rfl rfl (any_of HT_.out (by kernel_rfl)) (fun _ _ _ h => h) (Or.inl ⟨by rfl, ?_⟩) ?_ ?_
                    rotate_left
                    · intro w'
                      go_simp
                      with_reducible rfl
                    rotate_left
                    · simp only [Act.put, List.setIfInBounds_toArray, List.set_cons_zero, List.set_cons_succ, i64_w, i32_w]
                      rfl
                    refine pure_ (i := 1) (N := some 20) (v := ?_) (a' := ?_) #[true, true, false, false, false, false, false, false, false, false] rfl rfl (any_of HT_.out (by kernel_rfl)) (fun _ _ _ h => h) (Or.inl ⟨by rfl, ?_⟩) ?_ ?_
                    rotate_left
                    · intro w'
                      go_simp
                      with_reducible rfl
                    rotate_left
                    · simp only [Act.put, List.setIfInBounds_toArray, List.set_cons_zero, List.set_cons_succ, i64_w, i32_w]
                      rfl
                    refine pure_ (i := 2) (N := some 21) (v := ?_) (a' := ?_) #[true, true, true, false, false, false, false, false, false, false] rfl rfl (any_of HT_.out (by kernel_rfl)) (fun _ _ _ h => h) (Or.inl ⟨by rfl, ?_⟩) ?_ ?_
                    rotate_left
                    · intro w'
                      go_simp
                      with_reducible rfl
                    rotate_left
                    · simp only [Act.put, List.setIfInBounds_toArray, List.set_cons_zero, List.set_cons_succ, i64_w, i32_w]
                      rfl
                    refine pure_ (i := 4) (N := some 23) (v := ?_) (a' := ?_) #[true, true, true, false, true, false, false, false, false, false] rfl rfl (any_of HT_.out (by kernel_rfl)) (fun _ _ _ h => h) (Or.inl ⟨by rfl, ?_⟩) ?_ ?_
                    rotate_left
                    · intro w'
                      go_simp
                      with_reducible rfl
                    rotate_left
                    · simp only [Act.put, List.setIfInBounds_toArray, List.set_cons_zero, List.set_cons_succ, i64_w, i32_w]
                      rfl
                    refine pure_ (i := 5) (N := some 24) (v := ?_) (a' := ?_) #[true, true, true, false, true, true, false, false, false, false] rfl rfl (any_of HT_.out (by kernel_rfl)) (fun _ _ _ h => h) (Or.inl ⟨by rfl, ?_⟩) ?_ ?_
                    rotate_left
                    · intro w'
                      go_simp
                      with_reducible rfl
                    rotate_left
                    · simp only [Act.put, List.setIfInBounds_toArray, List.set_cons_zero, List.set_cons_succ, i64_w, i32_w]
                      rfl
                    refine pure_ (i := 6) (N := some 25) (v := ?_) (a' := ?_) #[true, true, true, false, true, true, true, false, false, false] rfl rfl (any_of HT_.out (by kernel_rfl)) (fun _ _ _ h => h) (Or.inl ⟨by rfl, ?_⟩) ?_ ?_
                    rotate_left
                    · intro w'
                      go_simp
                      with_reducible rfl
                    rotate_left
                    · simp only [Act.put, List.setIfInBounds_toArray, List.set_cons_zero, List.set_cons_succ, i64_w, i32_w]
                      rfl
                    refine take_ (i := 3) (N := some 22) (v := ?_) (a' := ?_) #[true, true, true, true, true, true, true, false, false, false] rfl rfl (take_ofW HT_.out HW_.out (by kernel_rfl)) (fun _ _ _ h => h) (Or.inl ⟨by rfl, ?_⟩) hHeld ?_ ?_
                    rotate_left
                    · rintro w' ⟨s0, s1, s2, s3, s4, s5⟩
                      go_simp
                      with_reducible rfl
                    rotate_left
                    · simp only [Act.put, List.setIfInBounds_toArray, List.set_cons_zero, List.set_cons_succ, i64_w, i32_w]
                      rfl
                    refine take_ (i := 7) (N := some 26) (v := ?_) (a' := ?_) #[true, true, true, true, true, true, true, true, false, false] rfl rfl (take_ofW HT_.out HW_.out (by kernel_rfl)) (fun _ _ _ h => h) (Or.inl ⟨by rfl, ?_⟩) hHeld ?_ ?_
                    rotate_left
                    · rintro w' ⟨s0, s1, s2, s3, s4, s5⟩
                      go_simp
                      with_reducible rfl
                    rotate_left
                    · simp only [Act.put, List.setIfInBounds_toArray, List.set_cons_zero, List.set_cons_succ, i64_w, i32_w]
                      rfl
                    refine one_ (i := 8) (N := some 27) #[true, true, true, true, true, true, true, true, true, false] rfl rfl (one_of HT_.out (by kernel_rfl)) (by decide) (fun K hK => ?_)
                    refine goes_ Tryd.func125 (by kernel_rfl) rfl #[.agg #[.int .i64 ((rd_T79 l0 x5_1).f0), .int .i64 ((rd_T79 l0 x5_1).f1), .string ((rd_T79 l0 x5_1).f2)], .agg #[.int .i64 ((rd_T79 l1 x5_1).f0), .int .i64 ((rd_T79 l1 x5_1).f1), .string ((rd_T79 l1 x5_1).f2)]] (by rfl) rfl rfl Cmp.au ?_
                    with_reducible refine (errataref03_Compare.calls ((rd_T79 l0 x5_1).f0) ((rd_T79 l0 x5_1).f1) ((rd_T79 l0 x5_1).f2) ((rd_T79 l1 x5_1).f0) ((rd_T79 l1 x5_1).f1) ((rd_T79 l1 x5_1).f2) t123 _ A9.out).mono ?_
                    rintro e w12 ⟨rfl, hb⟩
                    refine ⟨_, rfl, ?_⟩
                    have n0_ := Aside0.mk (below_step (Cmp.bq HB.out) hb)
                    clear HB
                    have HB := n0_
                    clear n0_
                    (try clear hb)
                    (try clear hb2)
                    (try clear hk)
                    (try clear hi)
                    refine hK.out _ _ ⟨((HB.out.cell (World.block_lt_of_cell? w _ hw121_0)).trans hw121_0), ((HB.out.cell (World.block_lt_of_cell? w _ hw121_1)).trans hw121_1), ((HB.out.cell (World.block_lt_of_cell? w _ hw121_2)).trans hw121_2), ((HB.out.cell (World.block_lt_of_cell? w _ hw122_0)).trans hw122_0), ((HB.out.cell (World.block_lt_of_cell? w _ hw122_1)).trans hw122_1), ((HB.out.cell (World.block_lt_of_cell? w _ hw122_2)).trans hw122_2)⟩ (fun hHeld => ?_)
                    clear hK K
                    refine norm_ (a' := ?_) ?_ ?_
                    rotate_left
                    · show Act.put _ (some 27) _ = _
                      simp only [Act.put, List.setIfInBounds_toArray, List.set_cons_zero, List.set_cons_succ, i64_w, i32_w]
                      rfl
                    refine pure_ (i := 9) (N := some 6) (v := ?_) (a' := ?_) #[true, true, true, true, true, true, true, true, true, true] rfl rfl (any_of HT_.out (by kernel_rfl)) (fun _ _ _ h => h) (Or.inl ⟨by rfl, ?_⟩) ?_ ?_
                    rotate_left
                    · intro w'
                      go_simp
                      with_reducible rfl
                    rotate_left
                    · simp only [Act.put, List.setIfInBounds_toArray, List.set_cons_zero, List.set_cons_succ, i64_w, i32_w]
                      rfl
                    refine done_ (done_of HT_.out (by kernel_rfl)) ?_
                    try go_wp2
                    go_roundg kj2
                    case measure => have := HK1.out; have := HJ2.out; omega
                    case rel => exact ⟨(wrap64 (x5_1 + 1)), (by first | rfl | (simp; done) | (simp [*]; done)), H', ⟨by have := HK1.out; have := HJ2.out; omega⟩, ⟨by repeat (first | (with_reducible first | exact HB.out | apply below_alloc | apply pw_below_drewN | apply below_drew1) | exact HB.out)⟩⟩
                  · rw [if_neg c10] at H
                    have c10b0 : (t123 == 0) = false := beq_eq_false_iff_ne.mpr c10
                    have c10b1 : (t123 != 0) = true := bne_iff_ne.mpr c10
                    obtain rfl := Option.some.inj H
                    try go_wp2
                    have n0_ := Aside0.mk (below_drew1 HB.out)
                    clear HB
                    have HB := n0_
                    clear n0_
                    have p121 : 0 ≤ (x5_1 : Int) := of_decide_eq_true (by first | (with_reducible assumption) | assumption)
                    have q121 : x5_1 < (l0.length : Int) := of_decide_eq_true (by first | (with_reducible assumption) | assumption)
                    obtain ⟨ad121, e121, hx121_0, hx121_1, hx121_2⟩ := at_T79 HR0.out x5_1 p121 q121
                    have hw121_2 := hx121_2
                    have hw121_1 := hx121_1
                    have hw121_0 := hx121_0
                    cases e121
                    replace hx121_0 := (HB.out.cell (World.block_lt_of_cell? w _ hx121_0)).trans hx121_0
                    replace hx121_1 := (HB.out.cell (World.block_lt_of_cell? w _ hx121_1)).trans hx121_1
                    replace hx121_2 := (HB.out.cell (World.block_lt_of_cell? w _ hx121_2)).trans hx121_2
                    replace p121 := eq_true p121
                    replace q121 := eq_true q121
                    have p122 : 0 ≤ (x5_1 : Int) := of_decide_eq_true (by first | (with_reducible assumption) | assumption)
                    have q122 : x5_1 < (l1.length : Int) := of_decide_eq_true (by first | (with_reducible assumption) | assumption)
                    obtain ⟨ad122, e122, hx122_0, hx122_1, hx122_2⟩ := at_T79 HR1.out x5_1 p122 q122
                    have hw122_2 := hx122_2
                    have hw122_1 := hx122_1
                    have hw122_0 := hx122_0
                    cases e122
                    replace hx122_0 := (HB.out.cell (World.block_lt_of_cell? w _ hx122_0)).trans hx122_0
                    replace hx122_1 := (HB.out.cell (World.block_lt_of_cell? w _ hx122_1)).trans hx122_1
                    replace hx122_2 := (HB.out.cell (World.block_lt_of_cell? w _ hx122_2)).trans hx122_2
                    replace p122 := eq_true p122
                    replace q122 := eq_true q122
                    refine start_ (n := 10) (S := fun w' => w'.cell? (ad121.add ((x5_1).toNat * 3)) = some (.int .i64 ((rd_T79 l0 x5_1).f0)) ∧ w'.cell? ⟨(ad121.add ((x5_1).toNat * 3)).block, (ad121.add ((x5_1).toNat * 3)).off + 1, none⟩ = some (.int .i64 ((rd_T79 l0 x5_1).f1)) ∧ w'.cell? ⟨(ad121.add ((x5_1).toNat * 3)).block, (ad121.add ((x5_1).toNat * 3)).off + 2, none⟩ = some (.string ((rd_T79 l0 x5_1).f2)) ∧ w'.cell? (ad122.add ((x5_1).toNat * 3)) = some (.int .i64 ((rd_T79 l1 x5_1).f0)) ∧ w'.cell? ⟨(ad122.add ((x5_1).toNat * 3)).block, (ad122.add ((x5_1).toNat * 3)).off + 1, none⟩ = some (.int .i64 ((rd_T79 l1 x5_1).f1)) ∧ w'.cell? ⟨(ad122.add ((x5_1).toNat * 3)).block, (ad122.add ((x5_1).toNat * 3)).off + 2, none⟩ = some (.string ((rd_T79 l1 x5_1).f2))) (ds := []) #[false, false, false, false, false, false, false, false, false, false] (by kernel_rfl) rfl rfl ⟨((HB.out.cell (World.block_lt_of_cell? w _ hw121_0)).trans hw121_0), ((HB.out.cell (World.block_lt_of_cell? w _ hw121_1)).trans hw121_1), ((HB.out.cell (World.block_lt_of_cell? w _ hw121_2)).trans hw121_2), ((HB.out.cell (World.block_lt_of_cell? w _ hw122_0)).trans hw122_0), ((HB.out.cell (World.block_lt_of_cell? w _ hw122_1)).trans hw122_1), ((HB.out.cell (World.block_lt_of_cell? w _ hw122_2)).trans hw122_2)⟩ (fun hHeld => ?_); refine with_tabW errataref03_CompareRows.tab4 errataref03_CompareRows.bits4 (fun HT_ HW_ => ?_)
                    generalize wc.drew = w13 at HB hx121_0 hx121_1 hx121_2 hx122_0 hx122_1 hx122_2 hHeld ⊢
                    refine pure_ (i := 0) (N := some 19) (v := ?_) (a' := ?_) #[true, false, false, false, false, false, false, false, false, false] rfl rfl (any_of HT_.out (by kernel_rfl)) (fun _ _ _ h => h) (Or.inl ⟨by rfl, ?_⟩) ?_ ?_
                    rotate_left
                    · intro w'
                      go_simp
                      with_reducible rfl
                    rotate_left
                    · simp only [Act.put, List.setIfInBounds_toArray, List.set_cons_zero, List.set_cons_succ, i64_w, i32_w]
                      rfl
                    refine pure_ (i := 1) (N := some 20) (v := ?_) (a' := ?_) #[true, true, false, false, false, false, false, false, false, false] rfl rfl (any_of HT_.out (by kernel_rfl)) (fun _ _ _ h => h) (Or.inl ⟨by rfl, ?_⟩) ?_ ?_
                    rotate_left
                    · intro w'
                      go_simp
                      with_reducible rfl
                    rotate_left
                    · simp only [Act.put, List.setIfInBounds_toArray, List.set_cons_zero, List.set_cons_succ, i64_w, i32_w]
                      rfl
                    refine pure_ (i := 2) (N := some 21) (v := ?_) (a' := ?_) #[true, true, true, false, false, false, false, false, false, false] rfl rfl (any_of HT_.out (by kernel_rfl)) (fun _ _ _ h => h) (Or.inl ⟨by rfl, ?_⟩) ?_ ?_
                    rotate_left
                    · intro w'
                      go_simp
                      with_reducible rfl
                    rotate_left
                    · simp only [Act.put, List.setIfInBounds_toArray, List.set_cons_zero, List.set_cons_succ, i64_w, i32_w]
                      rfl
                    refine pure_ (i := 4) (N := some 23) (v := ?_) (a' := ?_) #[true, true, true, false, true, false, false, false, false, false] rfl rfl (any_of HT_.out (by kernel_rfl)) (fun _ _ _ h => h) (Or.inl ⟨by rfl, ?_⟩) ?_ ?_
                    rotate_left
                    · intro w'
                      go_simp
                      with_reducible rfl
                    rotate_left
                    · simp only [Act.put, List.setIfInBounds_toArray, List.set_cons_zero, List.set_cons_succ, i64_w, i32_w]
                      rfl
                    refine pure_ (i := 5) (N := some 24) (v := ?_) (a' := ?_) #[true, true, true, false, true, true, false, false, false, false] rfl rfl (any_of HT_.out (by kernel_rfl)) (fun _ _ _ h => h) (Or.inl ⟨by rfl, ?_⟩) ?_ ?_
                    rotate_left
                    · intro w'
                      go_simp
                      with_reducible rfl
                    rotate_left
                    · simp only [Act.put, List.setIfInBounds_toArray, List.set_cons_zero, List.set_cons_succ, i64_w, i32_w]
                      rfl
                    refine pure_ (i := 6) (N := some 25) (v := ?_) (a' := ?_) #[true, true, true, false, true, true, true, false, false, false] rfl rfl (any_of HT_.out (by kernel_rfl)) (fun _ _ _ h => h) (Or.inl ⟨by rfl, ?_⟩) ?_ ?_
                    rotate_left
                    · intro w'
                      go_simp
                      with_reducible rfl
                    rotate_left
                    · simp only [Act.put, List.setIfInBounds_toArray, List.set_cons_zero, List.set_cons_succ, i64_w, i32_w]
                      rfl
                    refine take_ (i := 3) (N := some 22) (v := ?_) (a' := ?_) #[true, true, true, true, true, true, true, false, false, false] rfl rfl (take_ofW HT_.out HW_.out (by kernel_rfl)) (fun _ _ _ h => h) (Or.inl ⟨by rfl, ?_⟩) hHeld ?_ ?_
                    rotate_left
                    · rintro w' ⟨s0, s1, s2, s3, s4, s5⟩
                      go_simp
                      with_reducible rfl
                    rotate_left
                    · simp only [Act.put, List.setIfInBounds_toArray, List.set_cons_zero, List.set_cons_succ, i64_w, i32_w]
                      rfl
                    refine take_ (i := 7) (N := some 26) (v := ?_) (a' := ?_) #[true, true, true, true, true, true, true, true, false, false] rfl rfl (take_ofW HT_.out HW_.out (by kernel_rfl)) (fun _ _ _ h => h) (Or.inl ⟨by rfl, ?_⟩) hHeld ?_ ?_
                    rotate_left
                    · rintro w' ⟨s0, s1, s2, s3, s4, s5⟩
                      go_simp
                      with_reducible rfl
                    rotate_left
                    · simp only [Act.put, List.setIfInBounds_toArray, List.set_cons_zero, List.set_cons_succ, i64_w, i32_w]
                      rfl
                    refine one_ (i := 8) (N := some 27) #[true, true, true, true, true, true, true, true, true, false] rfl rfl (one_of HT_.out (by kernel_rfl)) (by decide) (fun K hK => ?_)
                    refine goes_ Tryd.func125 (by kernel_rfl) rfl #[.agg #[.int .i64 ((rd_T79 l0 x5_1).f0), .int .i64 ((rd_T79 l0 x5_1).f1), .string ((rd_T79 l0 x5_1).f2)], .agg #[.int .i64 ((rd_T79 l1 x5_1).f0), .int .i64 ((rd_T79 l1 x5_1).f1), .string ((rd_T79 l1 x5_1).f2)]] (by rfl) rfl rfl Cmp.au ?_
                    with_reducible refine (errataref03_Compare.calls ((rd_T79 l0 x5_1).f0) ((rd_T79 l0 x5_1).f1) ((rd_T79 l0 x5_1).f2) ((rd_T79 l1 x5_1).f0) ((rd_T79 l1 x5_1).f1) ((rd_T79 l1 x5_1).f2) t123 _ A9.out).mono ?_
                    rintro e w14 ⟨rfl, hb⟩
                    refine ⟨_, rfl, ?_⟩
                    have n0_ := Aside0.mk (below_step (Cmp.bq HB.out) hb)
                    clear HB
                    have HB := n0_
                    clear n0_
                    (try clear hb)
                    (try clear hb2)
                    (try clear hk)
                    (try clear hi)
                    refine hK.out _ _ ⟨((HB.out.cell (World.block_lt_of_cell? w _ hw121_0)).trans hw121_0), ((HB.out.cell (World.block_lt_of_cell? w _ hw121_1)).trans hw121_1), ((HB.out.cell (World.block_lt_of_cell? w _ hw121_2)).trans hw121_2), ((HB.out.cell (World.block_lt_of_cell? w _ hw122_0)).trans hw122_0), ((HB.out.cell (World.block_lt_of_cell? w _ hw122_1)).trans hw122_1), ((HB.out.cell (World.block_lt_of_cell? w _ hw122_2)).trans hw122_2)⟩ (fun hHeld => ?_)
                    clear hK K
                    refine norm_ (a' := ?_) ?_ ?_
                    rotate_left
                    · show Act.put _ (some 27) _ = _
                      simp only [Act.put, List.setIfInBounds_toArray, List.set_cons_zero, List.set_cons_succ, i64_w, i32_w]
                      rfl
                    refine pure_ (i := 9) (N := some 6) (v := ?_) (a' := ?_) #[true, true, true, true, true, true, true, true, true, true] rfl rfl (any_of HT_.out (by kernel_rfl)) (fun _ _ _ h => h) (Or.inl ⟨by rfl, ?_⟩) ?_ ?_
                    rotate_left
                    · intro w'
                      go_simp
                      with_reducible rfl
                    rotate_left
                    · simp only [Act.put, List.setIfInBounds_toArray, List.set_cons_zero, List.set_cons_succ, i64_w, i32_w]
                      rfl
                    refine done_ (done_of HT_.out (by kernel_rfl)) ?_
                    try go_wp2
                    go_ret
                    exact ⟨by first | rfl | (simp [errW_none, errW_some] <;> rfl) | (simp [*, errW_none, errW_some] <;> rfl), by repeat (first | (with_reducible first | exact HB.out | apply below_alloc | apply pw_below_drewN | apply below_drew1) | exact HB.out)⟩
                · rw [if_neg c8] at H
                  exact absurd H (by simp)
              · rw [if_neg c7] at H
                exact absurd H (by simp)
            · rw [if_neg c6] at H
              exact absurd H (by simp)
          · replace c5 := Bool.eq_false_iff.mpr c5
            subst c5
            have H1 : (if (l0.length : Int) < (l1.length : Int) then (some (-1)) else (if (l0.length : Int) > (l1.length : Int) then (some 1) else (some 0))) = some r := by rw [if_neg (show ¬ (false = true) by decide)] at H; exact H
            clear H
            have H := H1
            clear H1
            by_cases c15 : (l0.length : Int) < (l1.length : Int)
            · rw [if_pos c15] at H
              have c15b0 : decide ((l0.length : Int) < (l1.length : Int)) = true := decide_eq_true c15
              have c15b1 : decide (l0.length < l1.length) = true := decide_eq_true (Int.ofNat_lt.mp c15)
              clear c15
              obtain rfl := Option.some.inj H
              go_wp2
              go_ret
              exact ⟨by first | rfl | (simp [errW_none, errW_some] <;> rfl) | (simp [*, errW_none, errW_some] <;> rfl), by repeat (first | (with_reducible first | exact HB.out | apply below_alloc | apply pw_below_drewN | apply below_drew1) | exact HB.out)⟩
            · rw [if_neg c15] at H
              have c15b0 : decide ((l0.length : Int) < (l1.length : Int)) = false := decide_eq_false c15
              have c15b1 : decide (l0.length < l1.length) = false := decide_eq_false (fun h => c15 (Int.ofNat_lt.mpr h))
              clear c15
              by_cases c16 : (l0.length : Int) > (l1.length : Int)
              · rw [if_pos c16] at H
                have c16b0 : decide ((l1.length : Int) < (l0.length : Int)) = true := decide_eq_true c16
                have c16b1 : decide (l1.length < l0.length) = true := decide_eq_true (Int.ofNat_lt.mp c16)
                clear c16
                obtain rfl := Option.some.inj H
                go_wp2
                go_ret
                exact ⟨by first | rfl | (simp [errW_none, errW_some] <;> rfl) | (simp [*, errW_none, errW_some] <;> rfl), by repeat (first | (with_reducible first | exact HB.out | apply below_alloc | apply pw_below_drewN | apply below_drew1) | exact HB.out)⟩
              · rw [if_neg c16] at H
                have c16b0 : decide ((l1.length : Int) < (l0.length : Int)) = false := decide_eq_false c16
                have c16b1 : decide (l1.length < l0.length) = false := decide_eq_false (fun h => c16 (Int.ofNat_lt.mpr h))
                clear c16
                obtain rfl := Option.some.inj H
                go_wp2
                go_ret
                exact ⟨by first | rfl | (simp [errW_none, errW_some] <;> rfl) | (simp [*, errW_none, errW_some] <;> rfl), by repeat (first | (with_reducible first | exact HB.out | apply below_alloc | apply pw_below_drewN | apply below_drew1) | exact HB.out)⟩

/-! ### errataref28_Compare: function 71 -/
def errataref28_Compare.f (k : Nat) (a0_0 : Int) (l0_1 : List (S79)) (a0_2 : Int) (a1_0 : Int) (l1_1 : List (S79)) (a1_2 : Int) : Option (Int) := if a0_0 < a1_0 then (some (-1)) else (if a0_0 > a1_0 then (some 1) else ((errataref03_CompareRows.f k l0_1 l1_1).bind fun t126 => (some t126)))
theorem errataref28_Compare.mono : ∀ a0 a1 a2 a3 a4 a5 k, LeO (errataref28_Compare.f k a0 a1 a2 a3 a4 a5) (errataref28_Compare.f (k + 1) a0 a1 a2 a3 a4 a5) := by
  intro a0 a1 a2 a3 a4 a5 k
  unfold errataref28_Compare.f
  repeat' first
      | (with_reducible exact errataref03_CompareRows.mono _ _ _)
      | (with_reducible exact LeO.refl _)
      | (with_reducible exact LeO.none _)
      | (with_reducible refine LeO.ite ?_ ?_)
      | (with_reducible refine LeO.bind ?_ (fun _ => ?_))
      | exact errataref03_CompareRows.mono _ _ _
      | exact LeO.none _
      | refine LeO.ite ?_ ?_
      | refine LeO.bind ?_ (fun _ => ?_)
set_option maxHeartbeats 8000000 in
set_option maxRecDepth 100000 in
theorem errataref28_Compare.calls (k : Nat) (a0_0 : Int) (A0_1 : Option Addr) (c0_1 : Nat) (l0_1 : List (S79)) (a0_2 : Int) (a1_0 : Int) (A1_1 : Option Addr) (c1_1 : Nat) (l1_1 : List (S79)) (a1_2 : Int) (r : Int) (w : World) (hr0_1 : Kd.C k79 w A0_1 l0_1.length l0_1) (hc0_1 : l0_1.length ≤ c0_1) (hr1_1 : Kd.C k79 w A1_1 l1_1.length l1_1) (hc1_1 : l1_1.length ≤ c1_1) (h : errataref28_Compare.f k a0_0 l0_1 a0_2 a1_0 l1_1 a1_2 = some r) :
    Calls Tryd.prog 71 #[.agg #[.int .i64 a0_0, .slice A0_1 l0_1.length c0_1, .int .i64 a0_2], .agg #[.int .i64 a1_0, .slice A1_1 l1_1.length c1_1, .int .i64 a1_2]] w fun e w' => e = .returned (.int .i64 r) ∧ Below w.heap.size w w' := by
  have hu28 := Tryd.underlying28
  have HR0_1 := Aside0.mk hr0_1
  have HC0_1 := Aside0.mk hc0_1
  clear hr0_1 hc0_1
  have HR1_1 := Aside0.mk hr1_1
  have HC1_1 := Aside0.mk hc1_1
  clear hr1_1 hc1_1
  have HB := Aside0.mk (Below.refl w.heap.size w)
  have H : (if a0_0 < a1_0 then (some (-1)) else (if a0_0 > a1_0 then (some 1) else ((errataref03_CompareRows.f k l0_1 l1_1).bind fun t126 => (some t126)))) = some r := h
  clear h
  by_cases c3 : a0_0 < a1_0
  · rw [if_pos c3] at H
    have c3b0 : decide (a0_0 < a1_0) = true := decide_eq_true c3
    clear c3
    obtain rfl := Option.some.inj H
    go_enter Tryd.func71, Tryd.ntmps71
    go_wp2_with (first | ((with_reducible refine gate_dst (N := 2) rfl ?_); refine box_event ?hg (N := 2) ?hd (cs := #[.int .i64 a0_0, .slice A0_1 l0_1.length c0_1, .int .i64 a0_2]) (t := 28) ?hr ?_; (case hd => rfl); (case hg => rfl); (case hr => first | (go_simp; done) | (go_simp; rfl)); intro gb124 hg w4 hbox hb; have n0_ := Aside0.mk (below_step (Cmp.bq HB.out) hb); have n1_ := Aside0.mk (hbox); have n2_ := Aside0.mk ((by rw [hg]; exact (below_size (Cmp.bq HB.out)) : w.heap.size ≤ gb124)); have n3_ := Aside0.mk ((by rw [hg]; exact (below_size (Cmp.bq HB.out)) : w.heap.size ≤ gb124)); clear HB; have HB := n0_; have BK124 := n1_; have GW124 := n2_; have GE124 := n3_; clear n0_ n1_ n2_ n3_; clear hb hbox hg) | ((with_reducible refine gate_dst (N := 3) rfl ?_); refine box_event ?hg (N := 3) ?hd (cs := #[.int .i64 a1_0, .slice A1_1 l1_1.length c1_1, .int .i64 a1_2]) (t := 28) ?hr ?_; (case hd => rfl); (case hg => rfl); (case hr => first | (go_simp; done) | (go_simp; rfl)); intro gb125 hg w5 hbox hb; have n0_ := Aside0.mk (blk_below (g := gb124) (o := .cells #[.int .i64 a0_0, .slice A0_1 l0_1.length c0_1, .int .i64 a0_2] 28 (0, 0)) (by (with_reducible repeat (first | refine blk_drewN ?_ _ | refine blk_drew ?_ | refine blk_alloc ?_ _)); exact BK124.out) hb); have n1_ := Aside0.mk (below_step (by repeat (first | (with_reducible first | exact HB.out | apply below_alloc | apply pw_below_drewN | apply below_drew1 | refine below_set ?_ GE124.out) | exact HB.out)) hb); have n2_ := Aside0.mk (hbox); have n3_ := Aside0.mk ((by rw [hg]; exact (below_size (by repeat (first | (with_reducible first | exact HB.out | apply below_alloc | apply pw_below_drewN | apply below_drew1 | refine below_set ?_ GE124.out) | exact HB.out))) : w.heap.size ≤ gb125)); have n4_ := Aside0.mk ((by rw [hg]; exact (below_size (by repeat (first | (with_reducible first | exact HB.out | apply below_alloc | apply pw_below_drewN | apply below_drew1 | refine below_set ?_ GE124.out) | exact HB.out))) : w.heap.size ≤ gb125)); have n5_ := Aside0.mk ((by rw [hg]; exact Nat.ne_of_lt (blk_lt (g := gb124) (o := .cells #[.int .i64 a0_0, .slice A0_1 l0_1.length c0_1, .int .i64 a0_2] 28 (0, 0)) (by (with_reducible repeat (first | refine blk_drewN ?_ _ | refine blk_drew ?_ | refine blk_alloc ?_ _)); exact BK124.out)) : gb124 ≠ gb125)); have n6_ := Aside0.mk ((by rw [hg]; exact Nat.ne_of_gt (blk_lt (g := gb124) (o := .cells #[.int .i64 a0_0, .slice A0_1 l0_1.length c0_1, .int .i64 a0_2] 28 (0, 0)) (by (with_reducible repeat (first | refine blk_drewN ?_ _ | refine blk_drew ?_ | refine blk_alloc ?_ _)); exact BK124.out)) : gb125 ≠ gb124)); clear BK124; clear HB; have BK124 := n0_; have HB := n1_; have BK125 := n2_; have GW125 := n3_; have GE125 := n4_; have NB124_125 := n5_; have NB125_124 := n6_; clear n0_ n1_ n2_ n3_ n4_ n5_ n6_; clear hb hbox hg; have hnb6 := NB124_125.out; have hnc6 := NB125_124.out; have hcz7_0 : w5.cell? ⟨gb124, 0, none⟩ = some (.int .i64 a0_0) := (blk_cell BK124.out 0).trans rfl; have hcz7_1 : w5.cell? ⟨gb124, 1, none⟩ = some (.slice A0_1 l0_1.length c0_1) := (blk_cell BK124.out 1).trans rfl; have hcz7_2 : w5.cell? ⟨gb124, 2, none⟩ = some (.int .i64 a0_2) := (blk_cell BK124.out 2).trans rfl; have hfz7_0 := blk_frozen BK124.out 0; have hfz7_1 := blk_frozen BK124.out 1; have hfz7_2 := blk_frozen BK124.out 2; have hcz8_0 : w5.cell? ⟨gb125, 0, none⟩ = some (.int .i64 a1_0) := (blk_cell BK125.out 0).trans rfl; have hcz8_1 : w5.cell? ⟨gb125, 1, none⟩ = some (.slice A1_1 l1_1.length c1_1) := (blk_cell BK125.out 1).trans rfl; have hcz8_2 : w5.cell? ⟨gb125, 2, none⟩ = some (.int .i64 a1_2) := (blk_cell BK125.out 2).trans rfl; have hfz8_0 := blk_frozen BK125.out 0; have hfz8_1 := blk_frozen BK125.out 1; have hfz8_2 := blk_frozen BK125.out 2))
    go_ret
    exact ⟨by first | rfl | (simp [errW_none, errW_some] <;> rfl) | (simp [*, errW_none, errW_some] <;> rfl), by repeat (first | (with_reducible first | exact HB.out | apply below_alloc | apply pw_below_drewN | apply below_drew1 | refine below_set ?_ GE124.out | refine below_set ?_ GE125.out) | exact HB.out)⟩
  · rw [if_neg c3] at H
    have c3b0 : decide (a0_0 < a1_0) = false := decide_eq_false c3
    clear c3
    by_cases c9 : a0_0 > a1_0
    · rw [if_pos c9] at H
      have c9b0 : decide (a1_0 < a0_0) = true := decide_eq_true c9
      clear c9
      obtain rfl := Option.some.inj H
      go_enter Tryd.func71, Tryd.ntmps71
      go_wp2_with (first | ((with_reducible refine gate_dst (N := 2) rfl ?_); refine box_event ?hg (N := 2) ?hd (cs := #[.int .i64 a0_0, .slice A0_1 l0_1.length c0_1, .int .i64 a0_2]) (t := 28) ?hr ?_; (case hd => rfl); (case hg => rfl); (case hr => first | (go_simp; done) | (go_simp; rfl)); intro gb124 hg w10 hbox hb; have n0_ := Aside0.mk (below_step (Cmp.bq HB.out) hb); have n1_ := Aside0.mk (hbox); have n2_ := Aside0.mk ((by rw [hg]; exact (below_size (Cmp.bq HB.out)) : w.heap.size ≤ gb124)); have n3_ := Aside0.mk ((by rw [hg]; exact (below_size (Cmp.bq HB.out)) : w.heap.size ≤ gb124)); clear HB; have HB := n0_; have BK124 := n1_; have GW124 := n2_; have GE124 := n3_; clear n0_ n1_ n2_ n3_; clear hb hbox hg) | ((with_reducible refine gate_dst (N := 3) rfl ?_); refine box_event ?hg (N := 3) ?hd (cs := #[.int .i64 a1_0, .slice A1_1 l1_1.length c1_1, .int .i64 a1_2]) (t := 28) ?hr ?_; (case hd => rfl); (case hg => rfl); (case hr => first | (go_simp; done) | (go_simp; rfl)); intro gb125 hg w11 hbox hb; have n0_ := Aside0.mk (blk_below (g := gb124) (o := .cells #[.int .i64 a0_0, .slice A0_1 l0_1.length c0_1, .int .i64 a0_2] 28 (0, 0)) (by (with_reducible repeat (first | refine blk_drewN ?_ _ | refine blk_drew ?_ | refine blk_alloc ?_ _)); exact BK124.out) hb); have n1_ := Aside0.mk (below_step (by repeat (first | (with_reducible first | exact HB.out | apply below_alloc | apply pw_below_drewN | apply below_drew1 | refine below_set ?_ GE124.out) | exact HB.out)) hb); have n2_ := Aside0.mk (hbox); have n3_ := Aside0.mk ((by rw [hg]; exact (below_size (by repeat (first | (with_reducible first | exact HB.out | apply below_alloc | apply pw_below_drewN | apply below_drew1 | refine below_set ?_ GE124.out) | exact HB.out))) : w.heap.size ≤ gb125)); have n4_ := Aside0.mk ((by rw [hg]; exact (below_size (by repeat (first | (with_reducible first | exact HB.out | apply below_alloc | apply pw_below_drewN | apply below_drew1 | refine below_set ?_ GE124.out) | exact HB.out))) : w.heap.size ≤ gb125)); have n5_ := Aside0.mk ((by rw [hg]; exact Nat.ne_of_lt (blk_lt (g := gb124) (o := .cells #[.int .i64 a0_0, .slice A0_1 l0_1.length c0_1, .int .i64 a0_2] 28 (0, 0)) (by (with_reducible repeat (first | refine blk_drewN ?_ _ | refine blk_drew ?_ | refine blk_alloc ?_ _)); exact BK124.out)) : gb124 ≠ gb125)); have n6_ := Aside0.mk ((by rw [hg]; exact Nat.ne_of_gt (blk_lt (g := gb124) (o := .cells #[.int .i64 a0_0, .slice A0_1 l0_1.length c0_1, .int .i64 a0_2] 28 (0, 0)) (by (with_reducible repeat (first | refine blk_drewN ?_ _ | refine blk_drew ?_ | refine blk_alloc ?_ _)); exact BK124.out)) : gb125 ≠ gb124)); clear BK124; clear HB; have BK124 := n0_; have HB := n1_; have BK125 := n2_; have GW125 := n3_; have GE125 := n4_; have NB124_125 := n5_; have NB125_124 := n6_; clear n0_ n1_ n2_ n3_ n4_ n5_ n6_; clear hb hbox hg; have hnb12 := NB124_125.out; have hnc12 := NB125_124.out; have hcz13_0 : w11.cell? ⟨gb124, 0, none⟩ = some (.int .i64 a0_0) := (blk_cell BK124.out 0).trans rfl; have hcz13_1 : w11.cell? ⟨gb124, 1, none⟩ = some (.slice A0_1 l0_1.length c0_1) := (blk_cell BK124.out 1).trans rfl; have hcz13_2 : w11.cell? ⟨gb124, 2, none⟩ = some (.int .i64 a0_2) := (blk_cell BK124.out 2).trans rfl; have hfz13_0 := blk_frozen BK124.out 0; have hfz13_1 := blk_frozen BK124.out 1; have hfz13_2 := blk_frozen BK124.out 2; have hcz14_0 : w11.cell? ⟨gb125, 0, none⟩ = some (.int .i64 a1_0) := (blk_cell BK125.out 0).trans rfl; have hcz14_1 : w11.cell? ⟨gb125, 1, none⟩ = some (.slice A1_1 l1_1.length c1_1) := (blk_cell BK125.out 1).trans rfl; have hcz14_2 : w11.cell? ⟨gb125, 2, none⟩ = some (.int .i64 a1_2) := (blk_cell BK125.out 2).trans rfl; have hfz14_0 := blk_frozen BK125.out 0; have hfz14_1 := blk_frozen BK125.out 1; have hfz14_2 := blk_frozen BK125.out 2))
      go_ret
      exact ⟨by first | rfl | (simp [errW_none, errW_some] <;> rfl) | (simp [*, errW_none, errW_some] <;> rfl), by repeat (first | (with_reducible first | exact HB.out | apply below_alloc | apply pw_below_drewN | apply below_drew1 | refine below_set ?_ GE124.out | refine below_set ?_ GE125.out) | exact HB.out)⟩
    · rw [if_neg c9] at H
      have c9b0 : decide (a1_0 < a0_0) = false := decide_eq_false c9
      clear c9
      replace H := Option.bind_eq_some_iff.mp H
      obtain ⟨t126, A150, H⟩ := H
      replace H : (some t126) = some r := H
      have A15 := Aside0.mk A150
      clear A150
      obtain rfl := Option.some.inj H
      go_enter Tryd.func71, Tryd.ntmps71
      go_wp2_with (first | ((with_reducible refine gate_dst (N := 2) rfl ?_); refine box_event ?hg (N := 2) ?hd (cs := #[.int .i64 a0_0, .slice A0_1 l0_1.length c0_1, .int .i64 a0_2]) (t := 28) ?hr ?_; (case hd => rfl); (case hg => rfl); (case hr => first | (go_simp; done) | (go_simp; rfl)); intro gb124 hg w16 hbox hb; have n0_ := Aside0.mk (below_step (Cmp.bq HB.out) hb); have n1_ := Aside0.mk (hbox); have n2_ := Aside0.mk ((by rw [hg]; exact (below_size (Cmp.bq HB.out)) : w.heap.size ≤ gb124)); have n3_ := Aside0.mk ((by rw [hg]; exact (below_size (Cmp.bq HB.out)) : w.heap.size ≤ gb124)); clear HB; have HB := n0_; have BK124 := n1_; have GW124 := n2_; have GE124 := n3_; clear n0_ n1_ n2_ n3_; clear hb hbox hg) | ((with_reducible refine gate_dst (N := 3) rfl ?_); refine box_event ?hg (N := 3) ?hd (cs := #[.int .i64 a1_0, .slice A1_1 l1_1.length c1_1, .int .i64 a1_2]) (t := 28) ?hr ?_; (case hd => rfl); (case hg => rfl); (case hr => first | (go_simp; done) | (go_simp; rfl)); intro gb125 hg w17 hbox hb; have n0_ := Aside0.mk (blk_below (g := gb124) (o := .cells #[.int .i64 a0_0, .slice A0_1 l0_1.length c0_1, .int .i64 a0_2] 28 (0, 0)) (by (with_reducible repeat (first | refine blk_drewN ?_ _ | refine blk_drew ?_ | refine blk_alloc ?_ _)); exact BK124.out) hb); have n1_ := Aside0.mk (below_step (by repeat (first | (with_reducible first | exact HB.out | apply below_alloc | apply pw_below_drewN | apply below_drew1 | refine below_set ?_ GE124.out) | exact HB.out)) hb); have n2_ := Aside0.mk (hbox); have n3_ := Aside0.mk ((by rw [hg]; exact (below_size (by repeat (first | (with_reducible first | exact HB.out | apply below_alloc | apply pw_below_drewN | apply below_drew1 | refine below_set ?_ GE124.out) | exact HB.out))) : w.heap.size ≤ gb125)); have n4_ := Aside0.mk ((by rw [hg]; exact (below_size (by repeat (first | (with_reducible first | exact HB.out | apply below_alloc | apply pw_below_drewN | apply below_drew1 | refine below_set ?_ GE124.out) | exact HB.out))) : w.heap.size ≤ gb125)); have n5_ := Aside0.mk ((by rw [hg]; exact Nat.ne_of_lt (blk_lt (g := gb124) (o := .cells #[.int .i64 a0_0, .slice A0_1 l0_1.length c0_1, .int .i64 a0_2] 28 (0, 0)) (by (with_reducible repeat (first | refine blk_drewN ?_ _ | refine blk_drew ?_ | refine blk_alloc ?_ _)); exact BK124.out)) : gb124 ≠ gb125)); have n6_ := Aside0.mk ((by rw [hg]; exact Nat.ne_of_gt (blk_lt (g := gb124) (o := .cells #[.int .i64 a0_0, .slice A0_1 l0_1.length c0_1, .int .i64 a0_2] 28 (0, 0)) (by (with_reducible repeat (first | refine blk_drewN ?_ _ | refine blk_drew ?_ | refine blk_alloc ?_ _)); exact BK124.out)) : gb125 ≠ gb124)); clear BK124; clear HB; have BK124 := n0_; have HB := n1_; have BK125 := n2_; have GW125 := n3_; have GE125 := n4_; have NB124_125 := n5_; have NB125_124 := n6_; clear n0_ n1_ n2_ n3_ n4_ n5_ n6_; clear hb hbox hg; have hnb18 := NB124_125.out; have hnc18 := NB125_124.out; have hcz19_0 : w17.cell? ⟨gb124, 0, none⟩ = some (.int .i64 a0_0) := (blk_cell BK124.out 0).trans rfl; have hcz19_1 : w17.cell? ⟨gb124, 1, none⟩ = some (.slice A0_1 l0_1.length c0_1) := (blk_cell BK124.out 1).trans rfl; have hcz19_2 : w17.cell? ⟨gb124, 2, none⟩ = some (.int .i64 a0_2) := (blk_cell BK124.out 2).trans rfl; have hfz19_0 := blk_frozen BK124.out 0; have hfz19_1 := blk_frozen BK124.out 1; have hfz19_2 := blk_frozen BK124.out 2; have hcz20_0 : w17.cell? ⟨gb125, 0, none⟩ = some (.int .i64 a1_0) := (blk_cell BK125.out 0).trans rfl; have hcz20_1 : w17.cell? ⟨gb125, 1, none⟩ = some (.slice A1_1 l1_1.length c1_1) := (blk_cell BK125.out 1).trans rfl; have hcz20_2 : w17.cell? ⟨gb125, 2, none⟩ = some (.int .i64 a1_2) := (blk_cell BK125.out 2).trans rfl; have hfz20_0 := blk_frozen BK125.out 0; have hfz20_1 := blk_frozen BK125.out 1; have hfz20_2 := blk_frozen BK125.out 2) | ((with_reducible refine gate_callee (f := 102) rfl ?_); refine goesL_ (some 19) rfl rfl Tryd.func102 (by kernel_rfl) rfl #[.slice A0_1 l0_1.length c0_1, .slice A1_1 l1_1.length c1_1] rfl Cmp.au ?_; (with_reducible refine (errataref03_CompareRows.calls k _ _ l0_1 _ _ l1_1 t126 _ ?side1 ?side2 ?side3 ?side4 A15.out).mono ?_); (case side1 => exact Cmp.cb (Kd.C_below HR0_1.out HB.out)); (case side2 => exact HC0_1.out); (case side3 => exact Cmp.cb (Kd.C_below HR1_1.out HB.out)); (case side4 => exact HC1_1.out); rintro e w21 ⟨rfl, hb⟩; refine ⟨_, rfl, ?_⟩; have n0_ := Aside0.mk (blk_below (g := gb124) (o := .cells #[.int .i64 a0_0, .slice A0_1 l0_1.length c0_1, .int .i64 a0_2] 28 (0, 0)) (by (with_reducible repeat (first | refine blk_drewN ?_ _ | refine blk_drew ?_ | refine blk_alloc ?_ _)); exact BK124.out) hb); have n1_ := Aside0.mk (blk_below (g := gb125) (o := .cells #[.int .i64 a1_0, .slice A1_1 l1_1.length c1_1, .int .i64 a1_2] 28 (0, 0)) (by (with_reducible repeat (first | refine blk_drewN ?_ _ | refine blk_drew ?_ | refine blk_alloc ?_ _)); exact BK125.out) hb); have n2_ := Aside0.mk (below_step (by repeat (first | (with_reducible first | exact HB.out | apply below_alloc | apply pw_below_drewN | apply below_drew1 | refine below_set ?_ GE124.out | refine below_set ?_ GE125.out) | exact HB.out)) hb); clear BK124; clear BK125; clear HB; have BK124 := n0_; have BK125 := n1_; have HB := n2_; clear n0_ n1_ n2_; (try clear hb); (try clear hb2); (try clear hk); (try clear hi)))
      go_ret
      exact ⟨by first | rfl | (simp [errW_none, errW_some] <;> rfl) | (simp [*, errW_none, errW_some] <;> rfl), by repeat (first | (with_reducible first | exact HB.out | apply below_alloc | apply pw_below_drewN | apply below_drew1 | refine below_set ?_ GE124.out | refine below_set ?_ GE125.out) | exact HB.out)⟩

end Go.Proofs.YtgbodlghggkmoaaDoor.G
