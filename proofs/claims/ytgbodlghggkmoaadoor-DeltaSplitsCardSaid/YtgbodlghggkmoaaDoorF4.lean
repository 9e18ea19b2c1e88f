/- Written for this session by a program (mprint.py). -/
import Derived.Test.YtgbodlghggkmoaaDoorF0
import Derived.Test.YtgbodlghggkmoaaDoorF1
import Derived.Test.YtgbodlghggkmoaaDoorF2
import Derived.Test.YtgbodlghggkmoaaDoorF3
namespace Go.Proofs.YtgbodlghggkmoaaDoor.F
open Go.RowKit Go.Proofs.YtgbodlghggkmoaaDoorW.PrintWords Go.Proofs.YtgbodlghggkmoaaDoorW.PrintLast Go.Proofs.YtgbodlghggkmoaaDoorW.PrintMore
attribute [local go_sem] max2_int min2_int max_two min_two max_three min_three max_four min_four   -- for this text's walks alone
set_option linter.unusedVariables false
set_option linter.unusedSimpArgs false

/-! ### erratalaw28_DeltaSplits: function 3 -/
mutual
def erratalaw28_DeltaSplits.j0 : Nat → List (S28) → List (S28) → Int → Int → Bool → Bool → Option (Bool)
  | 0, _, _, _, _, _, _ => none
  | k + 1, x0, x1, x2, x3, x9, x24 => if x24 = true then (some x9) else ((delta_Upto.f x0 x2).bind fun t184 => ((delta_After.f x0 x2).bind fun t187 => (erratalaw28_DeltaSplits.l0 k x0 x1 x2 x3 x9 t184 t187 0)))
def erratalaw28_DeltaSplits.l0 : Nat → List (S28) → List (S28) → Int → Int → Bool → List (S28) → List (S28) → Int → Option (Bool)
  | 0, _, _, _, _, _, _, _, _ => none
  | k + 1, x0, x1, x2, x3, x9, x10, x11, x12 => if x12 < (x10.length : Int) then (if 0 ≤ x12 then (if ((rd_T28 x10 x12).f0) > x2 then (some false) else (erratalaw28_DeltaSplits.l0 k x0 x1 x2 x3 x9 x10 x11 (wrap64 (x12 + 1)))) else (none)) else (erratalaw28_DeltaSplits.l1 k x0 x1 x2 x3 x9 x10 x11 0)
def erratalaw28_DeltaSplits.l1 : Nat → List (S28) → List (S28) → Int → Int → Bool → List (S28) → List (S28) → Int → Option (Bool)
  | 0, _, _, _, _, _, _, _, _ => none
  | k + 1, x0, x1, x2, x3, x9, x10, x11, x13 => if x13 < (x11.length : Int) then (if 0 ≤ x13 then (if ((rd_T28 x11 x13).f0) ≤ x2 then (some false) else (erratalaw28_DeltaSplits.l1 k x0 x1 x2 x3 x9 x10 x11 (wrap64 (x13 + 1)))) else (none)) else ((delta_Consolidated.f k x10).bind fun t192 => (if t192 = true then ((delta_Consolidated.f k x11).bind fun t193 => (if t193 = true then ((delta_Add.f x10 x11).bind fun t194 => ((delta_Consolidate.f x0).bind fun t197 => ((errataref28_Equal.f k t194 t197).bind fun t200 => (erratalaw28_DeltaSplits.j3 k x0 x1 x2 x3 x9 x10 x11 t200)))) else (erratalaw28_DeltaSplits.j3 k x0 x1 x2 x3 x9 x10 x11 false))) else (erratalaw28_DeltaSplits.j3 k x0 x1 x2 x3 x9 x10 x11 false)))
def erratalaw28_DeltaSplits.j3 : Nat → List (S28) → List (S28) → Int → Int → Bool → List (S28) → List (S28) → Bool → Option (Bool)
  | 0, _, _, _, _, _, _, _, _ => none
  | k + 1, x0, x1, x2, x3, x9, x10, x11, x14 => (delta_Add.f x0 x1).bind fun t201 => ((delta_Upto.f t201 x2).bind fun t204 => ((delta_Upto.f x1 x2).bind fun t207 => ((delta_Add.f x10 t207).bind fun t210 => ((errataref28_Equal.f k t204 t210).bind fun t213 => (if t213 = true then ((delta_Sub.f x0 x1).bind fun t214 => ((delta_After.f t214 x2).bind fun t217 => ((delta_After.f x1 x2).bind fun t220 => ((delta_Sub.f x11 t220).bind fun t223 => ((errataref28_Equal.f k t217 t223).bind fun t226 => (if x9 = true then (if x14 = true then (if t226 = true then ((delta_Upto.f x10 x3).bind fun t227 => ((delta_Upto.f x0 (mn x2 x3)).bind fun t230 => ((errataref28_Equal.f k t227 t230).bind fun t233 => (some t233)))) else (some false)) else (some false)) else (some false))))))) else (if x9 = true then (if x14 = true then (some false) else (some false)) else (some false)))))))
end
def erratalaw28_DeltaSplits.f (k : Nat) (l0 : List (S28)) (l1 : List (S28)) (a2 : Int) (a3 : Int) : Option (Bool) := (erratalaw28_small.f k).bind fun t181 => ((erratalaw28_few.f k l0 100).bind fun t182 => (if t182 = true then ((erratalaw28_few.f k l1 100).bind fun t183 => (erratalaw28_DeltaSplits.j0 k l0 l1 a2 a3 t181 (!t183))) else (erratalaw28_DeltaSplits.j0 k l0 l1 a2 a3 t181 true)))
theorem erratalaw28_DeltaSplits.mono_l : ∀ k, (∀ y0 y1 y2 y3 y4 y5, LeO (erratalaw28_DeltaSplits.j0 k y0 y1 y2 y3 y4 y5) (erratalaw28_DeltaSplits.j0 (k + 1) y0 y1 y2 y3 y4 y5)) ∧ (∀ y0 y1 y2 y3 y4 y5 y6 y7, LeO (erratalaw28_DeltaSplits.l0 k y0 y1 y2 y3 y4 y5 y6 y7) (erratalaw28_DeltaSplits.l0 (k + 1) y0 y1 y2 y3 y4 y5 y6 y7)) ∧ (∀ y0 y1 y2 y3 y4 y5 y6 y7, LeO (erratalaw28_DeltaSplits.l1 k y0 y1 y2 y3 y4 y5 y6 y7) (erratalaw28_DeltaSplits.l1 (k + 1) y0 y1 y2 y3 y4 y5 y6 y7)) ∧ (∀ y0 y1 y2 y3 y4 y5 y6 y7, LeO (erratalaw28_DeltaSplits.j3 k y0 y1 y2 y3 y4 y5 y6 y7) (erratalaw28_DeltaSplits.j3 (k + 1) y0 y1 y2 y3 y4 y5 y6 y7))
  | 0 => ⟨fun _ _ _ _ _ _ r h => by simp [erratalaw28_DeltaSplits.j0] at h, fun _ _ _ _ _ _ _ _ r h => by simp [erratalaw28_DeltaSplits.l0] at h, fun _ _ _ _ _ _ _ _ r h => by simp [erratalaw28_DeltaSplits.l1] at h, fun _ _ _ _ _ _ _ _ r h => by simp [erratalaw28_DeltaSplits.j3] at h⟩
  | k + 1 => by
    obtain ⟨ih0, ih1, ih2, ih3⟩ := erratalaw28_DeltaSplits.mono_l k
    refine ⟨?_, ?_, ?_, ?_⟩
    · intro y0 y1 y2 y3 y4 y5
      unfold erratalaw28_DeltaSplits.j0
      repeat' first
      | (with_reducible exact ih0 _ _ _ _ _ _)
      | (with_reducible exact ih1 _ _ _ _ _ _ _ _)
      | (with_reducible exact ih2 _ _ _ _ _ _ _ _)
      | (with_reducible exact ih3 _ _ _ _ _ _ _ _)
      | (with_reducible exact delta_Consolidated.mono _ _)
      | (with_reducible exact erratalaw28_few.mono _ _ _)
      | (with_reducible exact erratalaw28_small.mono _)
      | (with_reducible exact errataref28_Equal.mono _ _ _)
      | (with_reducible exact LeO.refl _)
      | (with_reducible exact LeO.none _)
      | (with_reducible refine LeO.ite ?_ ?_)
      | (with_reducible refine LeO.bind ?_ (fun _ => ?_))
      | exact ih0 _ _ _ _ _ _
      | exact ih1 _ _ _ _ _ _ _ _
      | exact ih2 _ _ _ _ _ _ _ _
      | exact ih3 _ _ _ _ _ _ _ _
      | exact delta_Consolidated.mono _ _
      | exact erratalaw28_few.mono _ _ _
      | exact erratalaw28_small.mono _
      | exact errataref28_Equal.mono _ _ _
      | exact LeO.none _
      | refine LeO.ite ?_ ?_
      | refine LeO.bind ?_ (fun _ => ?_)
    · intro y0 y1 y2 y3 y4 y5 y6 y7
      unfold erratalaw28_DeltaSplits.l0
      repeat' first
      | (with_reducible exact ih0 _ _ _ _ _ _)
      | (with_reducible exact ih1 _ _ _ _ _ _ _ _)
      | (with_reducible exact ih2 _ _ _ _ _ _ _ _)
      | (with_reducible exact ih3 _ _ _ _ _ _ _ _)
      | (with_reducible exact delta_Consolidated.mono _ _)
      | (with_reducible exact erratalaw28_few.mono _ _ _)
      | (with_reducible exact erratalaw28_small.mono _)
      | (with_reducible exact errataref28_Equal.mono _ _ _)
      | (with_reducible exact LeO.refl _)
      | (with_reducible exact LeO.none _)
      | (with_reducible refine LeO.ite ?_ ?_)
      | (with_reducible refine LeO.bind ?_ (fun _ => ?_))
      | exact ih0 _ _ _ _ _ _
      | exact ih1 _ _ _ _ _ _ _ _
      | exact ih2 _ _ _ _ _ _ _ _
      | exact ih3 _ _ _ _ _ _ _ _
      | exact delta_Consolidated.mono _ _
      | exact erratalaw28_few.mono _ _ _
      | exact erratalaw28_small.mono _
      | exact errataref28_Equal.mono _ _ _
      | exact LeO.none _
      | refine LeO.ite ?_ ?_
      | refine LeO.bind ?_ (fun _ => ?_)
    · intro y0 y1 y2 y3 y4 y5 y6 y7
      unfold erratalaw28_DeltaSplits.l1
      repeat' first
      | (with_reducible exact ih0 _ _ _ _ _ _)
      | (with_reducible exact ih1 _ _ _ _ _ _ _ _)
      | (with_reducible exact ih2 _ _ _ _ _ _ _ _)
      | (with_reducible exact ih3 _ _ _ _ _ _ _ _)
      | (with_reducible exact delta_Consolidated.mono _ _)
      | (with_reducible exact erratalaw28_few.mono _ _ _)
      | (with_reducible exact erratalaw28_small.mono _)
      | (with_reducible exact errataref28_Equal.mono _ _ _)
      | (with_reducible exact LeO.refl _)
      | (with_reducible exact LeO.none _)
      | (with_reducible refine LeO.ite ?_ ?_)
      | (with_reducible refine LeO.bind ?_ (fun _ => ?_))
      | exact ih0 _ _ _ _ _ _
      | exact ih1 _ _ _ _ _ _ _ _
      | exact ih2 _ _ _ _ _ _ _ _
      | exact ih3 _ _ _ _ _ _ _ _
      | exact delta_Consolidated.mono _ _
      | exact erratalaw28_few.mono _ _ _
      | exact erratalaw28_small.mono _
      | exact errataref28_Equal.mono _ _ _
      | exact LeO.none _
      | refine LeO.ite ?_ ?_
      | refine LeO.bind ?_ (fun _ => ?_)
    · intro y0 y1 y2 y3 y4 y5 y6 y7
      unfold erratalaw28_DeltaSplits.j3
      repeat' first
      | (with_reducible exact ih0 _ _ _ _ _ _)
      | (with_reducible exact ih1 _ _ _ _ _ _ _ _)
      | (with_reducible exact ih2 _ _ _ _ _ _ _ _)
      | (with_reducible exact ih3 _ _ _ _ _ _ _ _)
      | (with_reducible exact delta_Consolidated.mono _ _)
      | (with_reducible exact erratalaw28_few.mono _ _ _)
      | (with_reducible exact erratalaw28_small.mono _)
      | (with_reducible exact errataref28_Equal.mono _ _ _)
      | (with_reducible exact LeO.refl _)
      | (with_reducible exact LeO.none _)
      | (with_reducible refine LeO.ite ?_ ?_)
      | (with_reducible refine LeO.bind ?_ (fun _ => ?_))
      | exact ih0 _ _ _ _ _ _
      | exact ih1 _ _ _ _ _ _ _ _
      | exact ih2 _ _ _ _ _ _ _ _
      | exact ih3 _ _ _ _ _ _ _ _
      | exact delta_Consolidated.mono _ _
      | exact erratalaw28_few.mono _ _ _
      | exact erratalaw28_small.mono _
      | exact errataref28_Equal.mono _ _ _
      | exact LeO.none _
      | refine LeO.ite ?_ ?_
      | refine LeO.bind ?_ (fun _ => ?_)
theorem erratalaw28_DeltaSplits.mono : ∀ a0 a1 a2 a3 k, LeO (erratalaw28_DeltaSplits.f k a0 a1 a2 a3) (erratalaw28_DeltaSplits.f (k + 1) a0 a1 a2 a3) := by
  intro a0 a1 a2 a3 k
  obtain ⟨ih0, ih1, ih2, ih3⟩ := erratalaw28_DeltaSplits.mono_l k
  unfold erratalaw28_DeltaSplits.f
  repeat' first
      | (with_reducible exact ih0 _ _ _ _ _ _)
      | (with_reducible exact ih1 _ _ _ _ _ _ _ _)
      | (with_reducible exact ih2 _ _ _ _ _ _ _ _)
      | (with_reducible exact ih3 _ _ _ _ _ _ _ _)
      | (with_reducible exact delta_Consolidated.mono _ _)
      | (with_reducible exact erratalaw28_few.mono _ _ _)
      | (with_reducible exact erratalaw28_small.mono _)
      | (with_reducible exact errataref28_Equal.mono _ _ _)
      | (with_reducible exact LeO.refl _)
      | (with_reducible exact LeO.none _)
      | (with_reducible refine LeO.ite ?_ ?_)
      | (with_reducible refine LeO.bind ?_ (fun _ => ?_))
      | exact ih0 _ _ _ _ _ _
      | exact ih1 _ _ _ _ _ _ _ _
      | exact ih2 _ _ _ _ _ _ _ _
      | exact ih3 _ _ _ _ _ _ _ _
      | exact delta_Consolidated.mono _ _
      | exact erratalaw28_few.mono _ _ _
      | exact erratalaw28_small.mono _
      | exact errataref28_Equal.mono _ _ _
      | exact LeO.none _
      | refine LeO.ite ?_ ?_
      | refine LeO.bind ?_ (fun _ => ?_)
set_option maxHeartbeats 8000000 in
set_option maxRecDepth 100000 in
theorem erratalaw28_DeltaSplits.calls (k : Nat) (A0 : Option Addr) (c0 : Nat) (l0 : List (S28)) (A1 : Option Addr) (c1 : Nat) (l1 : List (S28)) (a2 : Int) (a3 : Int) (r : Bool) (w : World) (hr0 : Kd.C k28 w A0 l0.length l0) (hc0 : l0.length ≤ c0) (hr1 : Kd.C k28 w A1 l1.length l1) (hc1 : l1.length ≤ c1) (h : erratalaw28_DeltaSplits.f k l0 l1 a2 a3 = some r) :
    Calls Tryd.prog 3 #[.slice A0 l0.length c0, .slice A1 l1.length c1, .int .i64 a2, .int .i64 a3] w fun e w' => e = .returned (.bool r) ∧ Below w.heap.size w w' := by
  have HR0 := Aside0.mk hr0
  have HC0 := Aside0.mk hc0
  clear hr0 hc0
  have HR1 := Aside0.mk hr1
  have HC1 := Aside0.mk hc1
  clear hr1 hc1
  have HB := Aside0.mk (Below.refl w.heap.size w)
  have H : ((erratalaw28_small.f k).bind fun t181 => ((erratalaw28_few.f k l0 100).bind fun t182 => (if t182 = true then ((erratalaw28_few.f k l1 100).bind fun t183 => (erratalaw28_DeltaSplits.j0 k l0 l1 a2 a3 t181 (!t183))) else (erratalaw28_DeltaSplits.j0 k l0 l1 a2 a3 t181 true)))) = some r := h
  clear h
  replace H := Option.bind_eq_some_iff.mp H
  obtain ⟨t181, A50, H⟩ := H
  replace H : ((erratalaw28_few.f k l0 100).bind fun t182 => (if t182 = true then ((erratalaw28_few.f k l1 100).bind fun t183 => (erratalaw28_DeltaSplits.j0 k l0 l1 a2 a3 t181 (!t183))) else (erratalaw28_DeltaSplits.j0 k l0 l1 a2 a3 t181 true))) = some r := H
  have A5 := Aside0.mk A50
  clear A50
  have HC6 := Aside0.mk H
  clear H
  go_enter Tryd.func3, Tryd.ntmps3
  go_upto_region 2 with (first | ((with_reducible refine gate_callee (f := 10) rfl ?_); refine goesL_ (some 16) rfl rfl Tryd.func10 (by kernel_rfl) rfl #[] rfl Cmp.au ?_; (with_reducible refine (erratalaw28_small.calls k  t181 _ A5.out).mono ?_); rintro e w7 ⟨rfl, hb⟩; refine ⟨_, rfl, ?_⟩; have n0_ := Aside0.mk (below_step (Cmp.bq HB.out) hb); clear HB; have HB := n0_; clear n0_; (try clear hb); (try clear hb2); (try clear hk); (try clear hi)))
  (try simp only [Act.put, List.setIfInBounds_toArray, List.set_cons_zero, List.set_cons_succ])
  go_cut [24] (fun v24 wc => ∃ (kq : Nat) (x24_5 : Bool), v24 = .bool x24_5 ∧ Aside0 (erratalaw28_DeltaSplits.j0 kq l0 l1 a2 a3 t181 x24_5 = some r) ∧ Aside0 (kq ≤ k) ∧ Aside0 (Below w.heap.size w wc))
  case first =>
    have H := HC6.out
    clear HC6
    replace H := Option.bind_eq_some_iff.mp H
    obtain ⟨t182, A80, H⟩ := H
    replace H : (if t182 = true then ((erratalaw28_few.f k l1 100).bind fun t183 => (erratalaw28_DeltaSplits.j0 k l0 l1 a2 a3 t181 (!t183))) else (erratalaw28_DeltaSplits.j0 k l0 l1 a2 a3 t181 true)) = some r := H
    have A8 := Aside0.mk A80
    clear A80
    by_cases c9 : t182 = true
    · subst c9
      have H1 : ((erratalaw28_few.f k l1 100).bind fun t183 => (erratalaw28_DeltaSplits.j0 k l0 l1 a2 a3 t181 (!t183))) = some r := by rw [if_pos rfl] at H; exact H
      clear H
      have H := H1
      clear H1
      replace H := Option.bind_eq_some_iff.mp H
      obtain ⟨t183, A100, H⟩ := H
      replace H : (erratalaw28_DeltaSplits.j0 k l0 l1 a2 a3 t181 (!t183)) = some r := H
      have A10 := Aside0.mk A100
      clear A100
      have H' := Aside0.mk H
      clear H
      go_wp2_with (first | ((with_reducible refine gate_callee (f := 11) rfl ?_); refine goesL_ (some 18) rfl rfl Tryd.func11 (by kernel_rfl) rfl #[.slice A0 l0.length c0, .int .i64 100] rfl Cmp.au ?_; (with_reducible refine (erratalaw28_few.calls k _ _ l0 100 true _ ?side1 ?side2 A8.out).mono ?_); (case side1 => exact Cmp.cb (Kd.C_below HR0.out HB.out)); (case side2 => exact HC0.out); rintro e w11 ⟨rfl, hb⟩; refine ⟨_, rfl, ?_⟩; have n0_ := Aside0.mk (below_step (Cmp.bq HB.out) hb); clear HB; have HB := n0_; clear n0_; (try clear hb); (try clear hb2); (try clear hk); (try clear hi)) | (go_at_call 11; (with_reducible refine (erratalaw28_few.calls k _ _ l1 100 t183 _ ?side1 ?side2 A10.out).mono ?_); (case side1 => exact Cmp.cb (Kd.C_below HR1.out HB.out)); (case side2 => exact HC1.out); rintro e w12 ⟨rfl, hb⟩; have n0_ := Aside0.mk (below_step (Cmp.bq HB.out) hb); clear HB; have HB := n0_; clear n0_; (try clear hb); (try clear hb2); (try clear hk); (try clear hi)))
      go_meet
      case rel => exact ⟨_, (!t183), (by first | rfl | (simp; done) | (simp [*]; done)), H', ⟨by first | omega | exact Nat.le_refl _⟩, ⟨by repeat (first | (with_reducible first | exact HB.out | apply below_alloc | apply pw_below_drewN | apply below_drew1) | exact HB.out)⟩⟩
    · replace c9 := Bool.eq_false_iff.mpr c9
      subst c9
      have H1 : (erratalaw28_DeltaSplits.j0 k l0 l1 a2 a3 t181 true) = some r := by rw [if_neg (show ¬ (false = true) by decide)] at H; exact H
      clear H
      have H := H1
      clear H1
      have H' := Aside0.mk H
      clear H
      go_wp2_with (first | ((with_reducible refine gate_callee (f := 11) rfl ?_); refine goesL_ (some 18) rfl rfl Tryd.func11 (by kernel_rfl) rfl #[.slice A0 l0.length c0, .int .i64 100] rfl Cmp.au ?_; (with_reducible refine (erratalaw28_few.calls k _ _ l0 100 false _ ?side1 ?side2 A8.out).mono ?_); (case side1 => exact Cmp.cb (Kd.C_below HR0.out HB.out)); (case side2 => exact HC0.out); rintro e w13 ⟨rfl, hb⟩; refine ⟨_, rfl, ?_⟩; have n0_ := Aside0.mk (below_step (Cmp.bq HB.out) hb); clear HB; have HB := n0_; clear n0_; (try clear hb); (try clear hb2); (try clear hk); (try clear hi)))
      go_meet
      case rel => exact ⟨_, (true), (by first | rfl | (simp; done) | (simp [*]; done)), H', ⟨by first | omega | exact Nat.le_refl _⟩, ⟨by repeat (first | (with_reducible first | exact HB.out | apply below_alloc | apply pw_below_drewN | apply below_drew1) | exact HB.out)⟩⟩
  case rest =>
    clear HC6
    try clear c1
    try clear p2
    try clear c3
    try clear c9
    try clear c10
    try clear c11
    obtain ⟨kq, x24_5, rfl, HA, HJ5, HB⟩ := hcut
    cases kq with
    | zero => exact absurd HA.out (by simp [erratalaw28_DeltaSplits.j0])
    | succ kj5 =>
      have H := HA.out
      clear HA
      simp only [erratalaw28_DeltaSplits.j0] at H
      by_cases c14 : x24_5 = true
      · subst c14
        have H1 : (some t181) = some r := by rw [if_pos rfl] at H; exact H
        clear H
        have H := H1
        clear H1
        obtain rfl := Option.some.inj H
        go_wp2
        go_ret
        exact ⟨by first | rfl | (simp [errW_none, errW_some] <;> rfl) | (simp [*, errW_none, errW_some] <;> rfl), by repeat (first | (with_reducible first | exact HB.out | apply below_alloc | apply pw_below_drewN | apply below_drew1) | exact HB.out)⟩
      · replace c14 := Bool.eq_false_iff.mpr c14
        subst c14
        have H1 : ((delta_Upto.f l0 a2).bind fun t184 => ((delta_After.f l0 a2).bind fun t187 => (erratalaw28_DeltaSplits.l0 kj5 l0 l1 a2 a3 t181 t184 t187 0))) = some r := by rw [if_neg (show ¬ (false = true) by decide)] at H; exact H
        clear H
        have H := H1
        clear H1
        replace H := Option.bind_eq_some_iff.mp H
        obtain ⟨t184, A150, H⟩ := H
        replace H : ((delta_After.f l0 a2).bind fun t187 => (erratalaw28_DeltaSplits.l0 kj5 l0 l1 a2 a3 t181 t184 t187 0)) = some r := H
        have A15 := Aside0.mk A150
        clear A150
        replace H := Option.bind_eq_some_iff.mp H
        obtain ⟨t187, A160, H⟩ := H
        replace H : (erratalaw28_DeltaSplits.l0 kj5 l0 l1 a2 a3 t181 t184 t187 0) = some r := H
        have A16 := Aside0.mk A160
        clear A160
        have H' := Aside0.mk H
        clear H
        go_wp2_with (first | ((with_reducible refine gate_callee (f := 12) rfl ?_); refine goesL_ (some 28) rfl rfl Tryd.func12 (by kernel_rfl) rfl #[.slice A0 l0.length c0, .int .i64 a2] rfl Cmp.au ?_; (with_reducible refine (delta_Upto.calls _ _ l0 a2 t184 _ ?side1 ?side2 A15.out).mono ?_); (case side1 => exact Cmp.cb (Kd.C_below HR0.out HB.out)); (case side2 => exact HC0.out); rintro e w17 ⟨v185, rfl, ho0, hb⟩; refine ⟨_, rfl, ?_⟩; have n0_ := Aside0.mk (Kd.V_lower (Kd.V_mono (ok' := fun k_ => True) ho0 (fun k_ hk_ => trivial)) (below_size (Cmp.bq HB.out))); have n1_ := Aside0.mk (below_step (Cmp.bq HB.out) hb); clear HB; have HO186 := n0_; have HB := n1_; clear n0_ n1_; (try clear hb); (try clear hb2); (try clear hk); (try clear hi); (try clear ho0)) | ((with_reducible refine gate_callee (f := 13) rfl ?_); refine goesL_ (some 31) rfl rfl Tryd.func13 (by kernel_rfl) rfl #[.slice A0 l0.length c0, .int .i64 a2] rfl Cmp.au ?_; (with_reducible refine (delta_After.calls _ _ l0 a2 t187 _ ?side1 ?side2 A16.out).mono ?_); (case side1 => exact Cmp.cb (Kd.C_below HR0.out HB.out)); (case side2 => exact HC0.out); rintro e w18 ⟨v188, rfl, ho0, hb⟩; refine ⟨_, rfl, ?_⟩; have n0_ := Aside0.mk (Cmp.vb hb HO186.out); have n1_ := Aside0.mk (Kd.V_lower (Kd.V_mono (ok' := fun k_ => True) ho0 (fun k_ hk_ => trivial)) (below_size (Cmp.bq HB.out))); have n2_ := Aside0.mk (below_step (Cmp.bq HB.out) hb); clear HO186; clear HB; have HO186 := n0_; have HO189 := n1_; have HB := n2_; clear n0_ n1_ n2_; (try clear hb); (try clear hb2); (try clear hk); (try clear hi); (try clear ho0)))
        go_loopg [12] kj5 (fun kq v12 w' => ∃ (x12_2 : Int), v12 = .int .i64 x12_2 ∧ Aside0 (erratalaw28_DeltaSplits.l0 kq l0 l1 a2 a3 t181 t184 t187 x12_2 = some r) ∧ Aside0 (kq ≤ kj5) ∧ Aside0 (Kd.V k28 28 w' w.heap.size (fun _ => True) v185 t184) ∧ Aside0 (Kd.V k28 28 w' w.heap.size (fun _ => True) v188 t187) ∧ Aside0 (Below w.heap.size w w'))
        case atStart => exact ⟨(0), (by first | rfl | (simp; done) | (simp [*]; done)), H', ⟨Nat.le_refl _⟩, ⟨by (with_reducible repeat (first | apply Kd.V_alloc | apply Kd.V_drewN | apply Kd.V_drew)); exact HO186.out⟩, ⟨by (with_reducible repeat (first | apply Kd.V_alloc | apply Kd.V_drewN | apply Kd.V_drew)); exact HO189.out⟩, ⟨by repeat (first | (with_reducible first | exact HB.out | apply below_alloc | apply pw_below_drewN | apply below_drew1) | exact HB.out)⟩⟩
        case round =>
          clear H'
          try clear c1
          try clear p2
          try clear c3
          try clear c9
          try clear c10
          try clear c11
          try clear c12
          try clear c13
          try clear c14
          try clear p2
          obtain ⟨x12_2, rfl, HA, HK2, HO_10, HO_11, HB⟩ := hrel
          cases gk with
          | zero => exact absurd HA.out (by simp [erratalaw28_DeltaSplits.l0])
          | succ k2 =>
            have H := HA.out
            clear HA
            simp only [erratalaw28_DeltaSplits.l0] at H
            by_cases c19 : x12_2 < (t184.length : Int)
            · rw [if_pos c19] at H
              have c19b0 : decide (x12_2 < (t184.length : Int)) = true := decide_eq_true c19
              clear c19
              by_cases c20 : 0 ≤ x12_2
              · rw [if_pos c20] at H
                have c20b0 : decide (0 ≤ x12_2) = true := decide_eq_true c20
                clear c20
                by_cases c21 : ((rd_T28 t184 x12_2).f0) > a2
                · rw [if_pos c21] at H
                  have c21b0 : decide (a2 < ((rd_T28 t184 x12_2).f0)) = true := decide_eq_true c21
                  clear c21
                  obtain rfl := Option.some.inj H
                  obtain ⟨Ao22, co22, eo22⟩ := Kd.V_slice HO_10.out
                  subst eo22
                  have p190 : 0 ≤ (x12_2 : Int) := of_decide_eq_true (by first | (with_reducible assumption) | assumption)
                  have q190 : x12_2 < (t184.length : Int) := of_decide_eq_true (by first | (with_reducible assumption) | assumption)
                  obtain ⟨ad190, A190_1, c190_1, e190, hx190_0, hx190_1, hx190_2, hl190_1, hi190_1⟩ := at_T28 (Kd.V_reads' HO_10.out).2.2 x12_2 p190 q190
                  cases e190
                  obtain ⟨ce190, hce190, hMe190, hcc190⟩ := Kd.V_get HO_10.out z28 x12_2 p190 (by first | exact q190 | exact of_decide_eq_true (by first | (with_reducible assumption) | assumption) | (have e_ := (Kd.V_reads' HO_10.out).1; omega))
                  obtain ⟨ua190_1, uc190_1, rfl, ul190_1, ge190_1⟩ := k28_openF hMe190
                  have hv190_1 := hcc190 1 _ rfl
                  rw [add_field _ _ 1 (by omega)] at hv190_1
                  replace hv190_1 := Option.some.inj (hv190_1.symm.trans hx190_1)
                  injection hv190_1 with hva_ hvn_ hvc_
                  rw [hva_] at ge190_1
                  rw [hvc_] at ul190_1
                  have HL190_1 := Aside0.mk (show Kd.V k79 79 _ w.heap.size _ _ ((rd_T28 t184 x12_2).f1) from Kd.V_mk ul190_1 ge190_1)
                  clear hva_ hvn_ hvc_ ge190_1 ul190_1
                  clear hcc190 hce190
                  have HR190_1 := Aside0.mk hi190_1
                  have HC190_1 := Aside0.mk hl190_1
                  clear hi190_1 hl190_1
                  replace p190 := eq_true p190
                  replace q190 := eq_true q190
                  go_wp2
                  go_ret
                  exact ⟨by first | rfl | (simp [errW_none, errW_some] <;> rfl) | (simp [*, errW_none, errW_some] <;> rfl), by repeat (first | (with_reducible first | exact HB.out | apply below_alloc | apply pw_below_drewN | apply below_drew1) | exact HB.out)⟩
                · rw [if_neg c21] at H
                  have c21b0 : decide (a2 < ((rd_T28 t184 x12_2).f0)) = false := decide_eq_false c21
                  clear c21
                  have H' := Aside0.mk H
                  clear H
                  obtain ⟨Ao23, co23, eo23⟩ := Kd.V_slice HO_10.out
                  subst eo23
                  have p190 : 0 ≤ (x12_2 : Int) := of_decide_eq_true (by first | (with_reducible assumption) | assumption)
                  have q190 : x12_2 < (t184.length : Int) := of_decide_eq_true (by first | (with_reducible assumption) | assumption)
                  obtain ⟨ad190, A190_1, c190_1, e190, hx190_0, hx190_1, hx190_2, hl190_1, hi190_1⟩ := at_T28 (Kd.V_reads' HO_10.out).2.2 x12_2 p190 q190
                  cases e190
                  obtain ⟨ce190, hce190, hMe190, hcc190⟩ := Kd.V_get HO_10.out z28 x12_2 p190 (by first | exact q190 | exact of_decide_eq_true (by first | (with_reducible assumption) | assumption) | (have e_ := (Kd.V_reads' HO_10.out).1; omega))
                  obtain ⟨ua190_1, uc190_1, rfl, ul190_1, ge190_1⟩ := k28_openF hMe190
                  have hv190_1 := hcc190 1 _ rfl
                  rw [add_field _ _ 1 (by omega)] at hv190_1
                  replace hv190_1 := Option.some.inj (hv190_1.symm.trans hx190_1)
                  injection hv190_1 with hva_ hvn_ hvc_
                  rw [hva_] at ge190_1
                  rw [hvc_] at ul190_1
                  have HL190_1 := Aside0.mk (show Kd.V k79 79 _ w.heap.size _ _ ((rd_T28 t184 x12_2).f1) from Kd.V_mk ul190_1 ge190_1)
                  clear hva_ hvn_ hvc_ ge190_1 ul190_1
                  clear hcc190 hce190
                  have HR190_1 := Aside0.mk hi190_1
                  have HC190_1 := Aside0.mk hl190_1
                  clear hi190_1 hl190_1
                  replace p190 := eq_true p190
                  replace q190 := eq_true q190
                  go_wp2
                  go_roundg k2
                  case measure => have := HJ5.out; have := HK2.out; omega
                  case rel => exact ⟨(wrap64 (x12_2 + 1)), (by first | rfl | (simp; done) | (simp [*]; done)), H', ⟨by have := HJ5.out; have := HK2.out; omega⟩, ⟨by (with_reducible repeat (first | apply Kd.V_alloc | apply Kd.V_drewN | apply Kd.V_drew)); exact HO_10.out⟩, ⟨by (with_reducible repeat (first | apply Kd.V_alloc | apply Kd.V_drewN | apply Kd.V_drew)); exact HO_11.out⟩, ⟨by repeat (first | (with_reducible first | exact HB.out | apply below_alloc | apply pw_below_drewN | apply below_drew1) | exact HB.out)⟩⟩
              · rw [if_neg c20] at H
                exact absurd H (by simp)
            · rw [if_neg c19] at H
              have c19b0 : decide (x12_2 < (t184.length : Int)) = false := decide_eq_false c19
              clear c19
              have H' := Aside0.mk H
              clear H
              obtain ⟨Ao24, co24, eo24⟩ := Kd.V_slice HO_10.out
              subst eo24
              go_wp2
              go_loopg [13] k2 (fun kq v13 w' => ∃ (x13_3 : Int), v13 = .int .i64 x13_3 ∧ Aside0 (erratalaw28_DeltaSplits.l1 kq l0 l1 a2 a3 t181 t184 t187 x13_3 = some r) ∧ Aside0 (kq ≤ k2) ∧ Aside0 (Kd.V k28 28 w' w.heap.size (fun _ => True) (.slice Ao24 t184.length co24) t184) ∧ Aside0 (Kd.V k28 28 w' w.heap.size (fun _ => True) v188 t187) ∧ Aside0 (Below w.heap.size w w'))
              case atStart => exact ⟨(0), (by first | rfl | (simp; done) | (simp [*]; done)), H', ⟨Nat.le_refl _⟩, ⟨by (with_reducible repeat (first | apply Kd.V_alloc | apply Kd.V_drewN | apply Kd.V_drew)); exact HO_10.out⟩, ⟨by (with_reducible repeat (first | apply Kd.V_alloc | apply Kd.V_drewN | apply Kd.V_drew)); exact HO_11.out⟩, ⟨by repeat (first | (with_reducible first | exact HB.out | apply below_alloc | apply pw_below_drewN | apply below_drew1) | exact HB.out)⟩⟩
              case round =>
                clear H'
                try clear c1
                try clear p1
                try clear q1
                try clear hx1
                try clear c2
                try clear p2
                try clear c3
                try clear p6
                try clear c9
                try clear c10
                try clear c11
                try clear c12
                try clear c13
                try clear c14
                try clear c19
                try clear c19b0
                try clear p19
                try clear q19
                try clear hx19
                try clear c20
                try clear c20b0
                try clear c21
                try clear c21b0
                try clear hx190_0
                try clear hx190_1
                try clear hx190_2
                try clear p190
                try clear p2
                try clear q190
                obtain ⟨x13_3, rfl, HA, HK3, HO_10, HO_11, HB⟩ := hrel
                cases gk with
                | zero => exact absurd HA.out (by simp [erratalaw28_DeltaSplits.l1])
                | succ k3 =>
                  have H := HA.out
                  clear HA
                  simp only [erratalaw28_DeltaSplits.l1] at H
                  by_cases c25 : x13_3 < (t187.length : Int)
                  · rw [if_pos c25] at H
                    have c25b0 : decide (x13_3 < (t187.length : Int)) = true := decide_eq_true c25
                    clear c25
                    by_cases c26 : 0 ≤ x13_3
                    · rw [if_pos c26] at H
                      have c26b0 : decide (0 ≤ x13_3) = true := decide_eq_true c26
                      clear c26
                      by_cases c27 : ((rd_T28 t187 x13_3).f0) ≤ a2
                      · rw [if_pos c27] at H
                        have c27b0 : decide (((rd_T28 t187 x13_3).f0) ≤ a2) = true := decide_eq_true c27
                        clear c27
                        obtain rfl := Option.some.inj H
                        obtain ⟨Ao28, co28, eo28⟩ := Kd.V_slice HO_11.out
                        subst eo28
                        have p191 : 0 ≤ (x13_3 : Int) := of_decide_eq_true (by first | (with_reducible assumption) | assumption)
                        have q191 : x13_3 < (t187.length : Int) := of_decide_eq_true (by first | (with_reducible assumption) | assumption)
                        obtain ⟨ad191, A191_1, c191_1, e191, hx191_0, hx191_1, hx191_2, hl191_1, hi191_1⟩ := at_T28 (Kd.V_reads' HO_11.out).2.2 x13_3 p191 q191
                        cases e191
                        obtain ⟨ce191, hce191, hMe191, hcc191⟩ := Kd.V_get HO_11.out z28 x13_3 p191 (by first | exact q191 | exact of_decide_eq_true (by first | (with_reducible assumption) | assumption) | (have e_ := (Kd.V_reads' HO_11.out).1; omega))
                        obtain ⟨ua191_1, uc191_1, rfl, ul191_1, ge191_1⟩ := k28_openF hMe191
                        have hv191_1 := hcc191 1 _ rfl
                        rw [add_field _ _ 1 (by omega)] at hv191_1
                        replace hv191_1 := Option.some.inj (hv191_1.symm.trans hx191_1)
                        injection hv191_1 with hva_ hvn_ hvc_
                        rw [hva_] at ge191_1
                        rw [hvc_] at ul191_1
                        have HL191_1 := Aside0.mk (show Kd.V k79 79 _ w.heap.size _ _ ((rd_T28 t187 x13_3).f1) from Kd.V_mk ul191_1 ge191_1)
                        clear hva_ hvn_ hvc_ ge191_1 ul191_1
                        clear hcc191 hce191
                        have HR191_1 := Aside0.mk hi191_1
                        have HC191_1 := Aside0.mk hl191_1
                        clear hi191_1 hl191_1
                        replace p191 := eq_true p191
                        replace q191 := eq_true q191
                        go_wp2
                        go_ret
                        exact ⟨by first | rfl | (simp [errW_none, errW_some] <;> rfl) | (simp [*, errW_none, errW_some] <;> rfl), by repeat (first | (with_reducible first | exact HB.out | apply below_alloc | apply pw_below_drewN | apply below_drew1) | exact HB.out)⟩
                      · rw [if_neg c27] at H
                        have c27b0 : decide (((rd_T28 t187 x13_3).f0) ≤ a2) = false := decide_eq_false c27
                        clear c27
                        have H' := Aside0.mk H
                        clear H
                        obtain ⟨Ao29, co29, eo29⟩ := Kd.V_slice HO_11.out
                        subst eo29
                        have p191 : 0 ≤ (x13_3 : Int) := of_decide_eq_true (by first | (with_reducible assumption) | assumption)
                        have q191 : x13_3 < (t187.length : Int) := of_decide_eq_true (by first | (with_reducible assumption) | assumption)
                        obtain ⟨ad191, A191_1, c191_1, e191, hx191_0, hx191_1, hx191_2, hl191_1, hi191_1⟩ := at_T28 (Kd.V_reads' HO_11.out).2.2 x13_3 p191 q191
                        cases e191
                        obtain ⟨ce191, hce191, hMe191, hcc191⟩ := Kd.V_get HO_11.out z28 x13_3 p191 (by first | exact q191 | exact of_decide_eq_true (by first | (with_reducible assumption) | assumption) | (have e_ := (Kd.V_reads' HO_11.out).1; omega))
                        obtain ⟨ua191_1, uc191_1, rfl, ul191_1, ge191_1⟩ := k28_openF hMe191
                        have hv191_1 := hcc191 1 _ rfl
                        rw [add_field _ _ 1 (by omega)] at hv191_1
                        replace hv191_1 := Option.some.inj (hv191_1.symm.trans hx191_1)
                        injection hv191_1 with hva_ hvn_ hvc_
                        rw [hva_] at ge191_1
                        rw [hvc_] at ul191_1
                        have HL191_1 := Aside0.mk (show Kd.V k79 79 _ w.heap.size _ _ ((rd_T28 t187 x13_3).f1) from Kd.V_mk ul191_1 ge191_1)
                        clear hva_ hvn_ hvc_ ge191_1 ul191_1
                        clear hcc191 hce191
                        have HR191_1 := Aside0.mk hi191_1
                        have HC191_1 := Aside0.mk hl191_1
                        clear hi191_1 hl191_1
                        replace p191 := eq_true p191
                        replace q191 := eq_true q191
                        go_wp2
                        go_roundg k3
                        case measure => have := HJ5.out; have := HK2.out; have := HK3.out; omega
                        case rel => exact ⟨(wrap64 (x13_3 + 1)), (by first | rfl | (simp; done) | (simp [*]; done)), H', ⟨by have := HJ5.out; have := HK2.out; have := HK3.out; omega⟩, ⟨by (with_reducible repeat (first | apply Kd.V_alloc | apply Kd.V_drewN | apply Kd.V_drew)); exact HO_10.out⟩, ⟨by (with_reducible repeat (first | apply Kd.V_alloc | apply Kd.V_drewN | apply Kd.V_drew)); exact HO_11.out⟩, ⟨by repeat (first | (with_reducible first | exact HB.out | apply below_alloc | apply pw_below_drewN | apply below_drew1) | exact HB.out)⟩⟩
                    · rw [if_neg c26] at H
                      exact absurd H (by simp)
                  · rw [if_neg c25] at H
                    have c25b0 : decide (x13_3 < (t187.length : Int)) = false := decide_eq_false c25
                    clear c25
                    have HC30 := Aside0.mk H
                    clear H
                    obtain ⟨Ao31, co31, eo31⟩ := Kd.V_slice HO_11.out
                    subst eo31
                    go_upto_region 16 with (fail)
                    go_cut [14] (fun v14 wc => ∃ (kq : Nat) (x14_29 : Bool), v14 = .bool x14_29 ∧ Aside0 (erratalaw28_DeltaSplits.j3 kq l0 l1 a2 a3 t181 t184 t187 x14_29 = some r) ∧ Aside0 (kq ≤ k3) ∧ Aside0 (Kd.V k28 28 wc w.heap.size (fun _ => True) (.slice Ao24 t184.length co24) t184) ∧ Aside0 (Kd.V k28 28 wc w.heap.size (fun _ => True) (.slice Ao31 t187.length co31) t187) ∧ Aside0 (Below w.heap.size w wc))
                    case first =>
                      have H := HC30.out
                      clear HC30
                      replace H := Option.bind_eq_some_iff.mp H
                      obtain ⟨t192, A320, H⟩ := H
                      replace H : (if t192 = true then ((delta_Consolidated.f k3 t187).bind fun t193 => (if t193 = true then ((delta_Add.f t184 t187).bind fun t194 => ((delta_Consolidate.f l0).bind fun t197 => ((errataref28_Equal.f k3 t194 t197).bind fun t200 => (erratalaw28_DeltaSplits.j3 k3 l0 l1 a2 a3 t181 t184 t187 t200)))) else (erratalaw28_DeltaSplits.j3 k3 l0 l1 a2 a3 t181 t184 t187 false))) else (erratalaw28_DeltaSplits.j3 k3 l0 l1 a2 a3 t181 t184 t187 false)) = some r := H
                      have A32 := Aside0.mk A320
                      clear A320
                      by_cases c33 : t192 = true
                      · subst c33
                        have H1 : ((delta_Consolidated.f k3 t187).bind fun t193 => (if t193 = true then ((delta_Add.f t184 t187).bind fun t194 => ((delta_Consolidate.f l0).bind fun t197 => ((errataref28_Equal.f k3 t194 t197).bind fun t200 => (erratalaw28_DeltaSplits.j3 k3 l0 l1 a2 a3 t181 t184 t187 t200)))) else (erratalaw28_DeltaSplits.j3 k3 l0 l1 a2 a3 t181 t184 t187 false))) = some r := by rw [if_pos rfl] at H; exact H
                        clear H
                        have H := H1
                        clear H1
                        replace H := Option.bind_eq_some_iff.mp H
                        obtain ⟨t193, A340, H⟩ := H
                        replace H : (if t193 = true then ((delta_Add.f t184 t187).bind fun t194 => ((delta_Consolidate.f l0).bind fun t197 => ((errataref28_Equal.f k3 t194 t197).bind fun t200 => (erratalaw28_DeltaSplits.j3 k3 l0 l1 a2 a3 t181 t184 t187 t200)))) else (erratalaw28_DeltaSplits.j3 k3 l0 l1 a2 a3 t181 t184 t187 false)) = some r := H
                        have A34 := Aside0.mk A340
                        clear A340
                        by_cases c35 : t193 = true
                        · subst c35
                          have H1 : ((delta_Add.f t184 t187).bind fun t194 => ((delta_Consolidate.f l0).bind fun t197 => ((errataref28_Equal.f k3 t194 t197).bind fun t200 => (erratalaw28_DeltaSplits.j3 k3 l0 l1 a2 a3 t181 t184 t187 t200)))) = some r := by rw [if_pos rfl] at H; exact H
                          clear H
                          have H := H1
                          clear H1
                          replace H := Option.bind_eq_some_iff.mp H
                          obtain ⟨t194, A360, H⟩ := H
                          replace H : ((delta_Consolidate.f l0).bind fun t197 => ((errataref28_Equal.f k3 t194 t197).bind fun t200 => (erratalaw28_DeltaSplits.j3 k3 l0 l1 a2 a3 t181 t184 t187 t200))) = some r := H
                          have A36 := Aside0.mk A360
                          clear A360
                          replace H := Option.bind_eq_some_iff.mp H
                          obtain ⟨t197, A370, H⟩ := H
                          replace H : ((errataref28_Equal.f k3 t194 t197).bind fun t200 => (erratalaw28_DeltaSplits.j3 k3 l0 l1 a2 a3 t181 t184 t187 t200)) = some r := H
                          have A37 := Aside0.mk A370
                          clear A370
                          replace H := Option.bind_eq_some_iff.mp H
                          obtain ⟨t200, A380, H⟩ := H
                          replace H : (erratalaw28_DeltaSplits.j3 k3 l0 l1 a2 a3 t181 t184 t187 t200) = some r := H
                          have A38 := Aside0.mk A380
                          clear A380
                          have H' := Aside0.mk H
                          clear H
                          go_wp2_with (first | ((with_reducible refine gate_callee (f := 14) rfl ?_); refine goesL_ (some 59) rfl rfl Tryd.func14 (by kernel_rfl) rfl #[.slice Ao24 t184.length co24] rfl Cmp.au ?_; (with_reducible refine (delta_Consolidated.calls k3 _ _ t184 true _ ?side1 ?side2 A32.out).mono ?_); (case side1 => repeat (first | exact (Kd.V_reads' HO_10.out).2.2 | (with_reducible refine Kd.C_alloc ?_ _) | (with_reducible refine Kd.C_drewN ?_ _) | (with_reducible refine Kd.C_drew ?_))); (case side2 => exact (Kd.V_reads' HO_10.out).2.1); rintro e w39 ⟨rfl, hb⟩; refine ⟨_, rfl, ?_⟩; have n0_ := Aside0.mk (Cmp.vb hb HO_10.out); have n1_ := Aside0.mk (Cmp.vb hb HO_11.out); have n2_ := Aside0.mk (below_step (Cmp.bq HB.out) hb); clear HO_10; clear HO_11; clear HB; have HO_10 := n0_; have HO_11 := n1_; have HB := n2_; clear n0_ n1_ n2_; (try clear hb); (try clear hb2); (try clear hk); (try clear hi)) | (go_at_call 14; (with_reducible refine (delta_Consolidated.calls k3 _ _ t187 true _ ?side1 ?side2 A34.out).mono ?_); (case side1 => repeat (first | exact (Kd.V_reads' HO_11.out).2.2 | (with_reducible refine Kd.C_alloc ?_ _) | (with_reducible refine Kd.C_drewN ?_ _) | (with_reducible refine Kd.C_drew ?_))); (case side2 => exact (Kd.V_reads' HO_11.out).2.1); rintro e w40 ⟨rfl, hb⟩; have n0_ := Aside0.mk (Cmp.vb hb HO_10.out); have n1_ := Aside0.mk (Cmp.vb hb HO_11.out); have n2_ := Aside0.mk (below_step (Cmp.bq HB.out) hb); clear HO_10; clear HO_11; clear HB; have HO_10 := n0_; have HO_11 := n1_; have HB := n2_; clear n0_ n1_ n2_; (try clear hb); (try clear hb2); (try clear hk); (try clear hi)) | (go_at_call 16; (with_reducible refine (delta_Add.calls _ _ t184 _ _ t187 t194 _ ?side1 ?side2 ?side3 ?side4 A36.out).mono ?_); (case side1 => repeat (first | exact (Kd.V_reads' HO_10.out).2.2 | (with_reducible refine Kd.C_alloc ?_ _) | (with_reducible refine Kd.C_drewN ?_ _) | (with_reducible refine Kd.C_drew ?_))); (case side2 => exact (Kd.V_reads' HO_10.out).2.1); (case side3 => repeat (first | exact (Kd.V_reads' HO_11.out).2.2 | (with_reducible refine Kd.C_alloc ?_ _) | (with_reducible refine Kd.C_drewN ?_ _) | (with_reducible refine Kd.C_drew ?_))); (case side4 => exact (Kd.V_reads' HO_11.out).2.1); rintro e w41 ⟨v195, rfl, ho0, hb⟩; have n0_ := Aside0.mk (Cmp.vb hb HO_10.out); have n1_ := Aside0.mk (Cmp.vb hb HO_11.out); have n2_ := Aside0.mk (Kd.V_lower (Kd.V_mono (ok' := fun k_ => True) ho0 (fun k_ hk_ => trivial)) (below_size (Cmp.bq HB.out))); have n3_ := Aside0.mk (below_step (Cmp.bq HB.out) hb); clear HO_10; clear HO_11; clear HB; have HO_10 := n0_; have HO_11 := n1_; have HO196 := n2_; have HB := n3_; clear n0_ n1_ n2_ n3_; (try clear hb); (try clear hb2); (try clear hk); (try clear hi); (try clear ho0)) | (go_at_call 17; (with_reducible refine (delta_Consolidate.calls _ _ l0 t197 _ ?side1 ?side2 A37.out).mono ?_); (case side1 => exact Cmp.cb (Kd.C_below HR0.out HB.out)); (case side2 => exact HC0.out); rintro e w42 ⟨v198, rfl, ho0, hb⟩; have n0_ := Aside0.mk (Cmp.vb hb HO_10.out); have n1_ := Aside0.mk (Cmp.vb hb HO_11.out); have n2_ := Aside0.mk (Cmp.vb hb HO196.out); have n3_ := Aside0.mk (Kd.V_lower (Kd.V_mono (ok' := fun k_ => True) ho0 (fun k_ hk_ => trivial)) (below_size (Cmp.bq HB.out))); have n4_ := Aside0.mk (below_step (Cmp.bq HB.out) hb); clear HO_10; clear HO_11; clear HO196; clear HB; have HO_10 := n0_; have HO_11 := n1_; have HO196 := n2_; have HO199 := n3_; have HB := n4_; clear n0_ n1_ n2_ n3_ n4_; (try clear hb); (try clear hb2); (try clear hk); (try clear hi); (try clear ho0); obtain ⟨Ao43, co43, eo43⟩ := Kd.V_slice HO196.out; subst eo43; obtain ⟨Ao44, co44, eo44⟩ := Kd.V_slice HO199.out; subst eo44) | (go_at_call 15; (with_reducible refine (errataref28_Equal.calls k3 _ _ t194 _ _ t197 t200 _ ?side1 ?side2 ?side3 ?side4 A38.out).mono ?_); (case side1 => repeat (first | exact (Kd.V_reads' HO196.out).2.2 | (with_reducible refine Kd.C_alloc ?_ _) | (with_reducible refine Kd.C_drewN ?_ _) | (with_reducible refine Kd.C_drew ?_))); (case side2 => exact (Kd.V_reads' HO196.out).2.1); (case side3 => repeat (first | exact (Kd.V_reads' HO199.out).2.2 | (with_reducible refine Kd.C_alloc ?_ _) | (with_reducible refine Kd.C_drewN ?_ _) | (with_reducible refine Kd.C_drew ?_))); (case side4 => exact (Kd.V_reads' HO199.out).2.1); rintro e w45 ⟨rfl, hb⟩; have n0_ := Aside0.mk (Cmp.vb hb HO_10.out); have n1_ := Aside0.mk (Cmp.vb hb HO_11.out); have n2_ := Aside0.mk (Cmp.vb hb HO196.out); have n3_ := Aside0.mk (Cmp.vb hb HO199.out); have n4_ := Aside0.mk (below_step (Cmp.bq HB.out) hb); clear HO_10; clear HO_11; clear HO196; clear HO199; clear HB; have HO_10 := n0_; have HO_11 := n1_; have HO196 := n2_; have HO199 := n3_; have HB := n4_; clear n0_ n1_ n2_ n3_ n4_; (try clear hb); (try clear hb2); (try clear hk); (try clear hi)))
                          go_meet
                          case rel => exact ⟨_, (t200), (by first | rfl | (simp; done) | (simp [*]; done)), H', ⟨by have := HJ5.out; have := HK2.out; have := HK3.out; first | omega | exact Nat.le_refl _⟩, ⟨by (with_reducible repeat (first | apply Kd.V_alloc | apply Kd.V_drewN | apply Kd.V_drew)); exact HO_10.out⟩, ⟨by (with_reducible repeat (first | apply Kd.V_alloc | apply Kd.V_drewN | apply Kd.V_drew)); exact HO_11.out⟩, ⟨by repeat (first | (with_reducible first | exact HB.out | apply below_alloc | apply pw_below_drewN | apply below_drew1) | exact HB.out)⟩⟩
                        · replace c35 := Bool.eq_false_iff.mpr c35
                          subst c35
                          have H1 : (erratalaw28_DeltaSplits.j3 k3 l0 l1 a2 a3 t181 t184 t187 false) = some r := by rw [if_neg (show ¬ (false = true) by decide)] at H; exact H
                          clear H
                          have H := H1
                          clear H1
                          have H' := Aside0.mk H
                          clear H
                          go_wp2_with (first | ((with_reducible refine gate_callee (f := 14) rfl ?_); refine goesL_ (some 59) rfl rfl Tryd.func14 (by kernel_rfl) rfl #[.slice Ao24 t184.length co24] rfl Cmp.au ?_; (with_reducible refine (delta_Consolidated.calls k3 _ _ t184 true _ ?side1 ?side2 A32.out).mono ?_); (case side1 => repeat (first | exact (Kd.V_reads' HO_10.out).2.2 | (with_reducible refine Kd.C_alloc ?_ _) | (with_reducible refine Kd.C_drewN ?_ _) | (with_reducible refine Kd.C_drew ?_))); (case side2 => exact (Kd.V_reads' HO_10.out).2.1); rintro e w46 ⟨rfl, hb⟩; refine ⟨_, rfl, ?_⟩; have n0_ := Aside0.mk (Cmp.vb hb HO_10.out); have n1_ := Aside0.mk (Cmp.vb hb HO_11.out); have n2_ := Aside0.mk (below_step (Cmp.bq HB.out) hb); clear HO_10; clear HO_11; clear HB; have HO_10 := n0_; have HO_11 := n1_; have HB := n2_; clear n0_ n1_ n2_; (try clear hb); (try clear hb2); (try clear hk); (try clear hi)) | (go_at_call 14; (with_reducible refine (delta_Consolidated.calls k3 _ _ t187 false _ ?side1 ?side2 A34.out).mono ?_); (case side1 => repeat (first | exact (Kd.V_reads' HO_11.out).2.2 | (with_reducible refine Kd.C_alloc ?_ _) | (with_reducible refine Kd.C_drewN ?_ _) | (with_reducible refine Kd.C_drew ?_))); (case side2 => exact (Kd.V_reads' HO_11.out).2.1); rintro e w47 ⟨rfl, hb⟩; have n0_ := Aside0.mk (Cmp.vb hb HO_10.out); have n1_ := Aside0.mk (Cmp.vb hb HO_11.out); have n2_ := Aside0.mk (below_step (Cmp.bq HB.out) hb); clear HO_10; clear HO_11; clear HB; have HO_10 := n0_; have HO_11 := n1_; have HB := n2_; clear n0_ n1_ n2_; (try clear hb); (try clear hb2); (try clear hk); (try clear hi)))
                          go_meet
                          case rel => exact ⟨_, (false), (by first | rfl | (simp; done) | (simp [*]; done)), H', ⟨by have := HJ5.out; have := HK2.out; have := HK3.out; first | omega | exact Nat.le_refl _⟩, ⟨by (with_reducible repeat (first | apply Kd.V_alloc | apply Kd.V_drewN | apply Kd.V_drew)); exact HO_10.out⟩, ⟨by (with_reducible repeat (first | apply Kd.V_alloc | apply Kd.V_drewN | apply Kd.V_drew)); exact HO_11.out⟩, ⟨by repeat (first | (with_reducible first | exact HB.out | apply below_alloc | apply pw_below_drewN | apply below_drew1) | exact HB.out)⟩⟩
                      · replace c33 := Bool.eq_false_iff.mpr c33
                        subst c33
                        have H1 : (erratalaw28_DeltaSplits.j3 k3 l0 l1 a2 a3 t181 t184 t187 false) = some r := by rw [if_neg (show ¬ (false = true) by decide)] at H; exact H
                        clear H
                        have H := H1
                        clear H1
                        have H' := Aside0.mk H
                        clear H
                        go_wp2_with (first | ((with_reducible refine gate_callee (f := 14) rfl ?_); refine goesL_ (some 59) rfl rfl Tryd.func14 (by kernel_rfl) rfl #[.slice Ao24 t184.length co24] rfl Cmp.au ?_; (with_reducible refine (delta_Consolidated.calls k3 _ _ t184 false _ ?side1 ?side2 A32.out).mono ?_); (case side1 => repeat (first | exact (Kd.V_reads' HO_10.out).2.2 | (with_reducible refine Kd.C_alloc ?_ _) | (with_reducible refine Kd.C_drewN ?_ _) | (with_reducible refine Kd.C_drew ?_))); (case side2 => exact (Kd.V_reads' HO_10.out).2.1); rintro e w48 ⟨rfl, hb⟩; refine ⟨_, rfl, ?_⟩; have n0_ := Aside0.mk (Cmp.vb hb HO_10.out); have n1_ := Aside0.mk (Cmp.vb hb HO_11.out); have n2_ := Aside0.mk (below_step (Cmp.bq HB.out) hb); clear HO_10; clear HO_11; clear HB; have HO_10 := n0_; have HO_11 := n1_; have HB := n2_; clear n0_ n1_ n2_; (try clear hb); (try clear hb2); (try clear hk); (try clear hi)))
                        go_meet
                        case rel => exact ⟨_, (false), (by first | rfl | (simp; done) | (simp [*]; done)), H', ⟨by have := HJ5.out; have := HK2.out; have := HK3.out; first | omega | exact Nat.le_refl _⟩, ⟨by (with_reducible repeat (first | apply Kd.V_alloc | apply Kd.V_drewN | apply Kd.V_drew)); exact HO_10.out⟩, ⟨by (with_reducible repeat (first | apply Kd.V_alloc | apply Kd.V_drewN | apply Kd.V_drew)); exact HO_11.out⟩, ⟨by repeat (first | (with_reducible first | exact HB.out | apply below_alloc | apply pw_below_drewN | apply below_drew1) | exact HB.out)⟩⟩
                    case rest =>
                      clear HC30
                      try clear c1
                      try clear p1
                      try clear q1
                      try clear hx1
                      try clear c2
                      try clear p2
                      try clear c3
                      try clear p6
                      try clear c9
                      try clear c10
                      try clear c11
                      try clear c12
                      try clear c13
                      try clear c14
                      try clear c19
                      try clear c19b0
                      try clear p19
                      try clear q19
                      try clear hx19
                      try clear c20
                      try clear c20b0
                      try clear c21
                      try clear c21b0
                      try clear c25
                      try clear c25b0
                      try clear c26
                      try clear c26b0
                      try clear c27
                      try clear c27b0
                      try clear c33
                      try clear c35
                      try clear hx190_0
                      try clear hx190_1
                      try clear hx190_2
                      try clear hx191_0
                      try clear hx191_1
                      try clear hx191_2
                      try clear p1
                      try clear p19
                      try clear p190
                      try clear p191
                      try clear p2
                      try clear p6
                      try clear q1
                      try clear q19
                      try clear q190
                      try clear q191
                      obtain ⟨kq, x14_29, rfl, HA, HJ29, HO_10, HO_11, HB⟩ := hcut
                      cases kq with
                      | zero => exact absurd HA.out (by simp [erratalaw28_DeltaSplits.j3])
                      | succ kj29 =>
                        have H := HA.out
                        clear HA
                        simp only [erratalaw28_DeltaSplits.j3] at H
                        replace H := Option.bind_eq_some_iff.mp H
                        obtain ⟨t201, A490, H⟩ := H
                        replace H : ((delta_Upto.f t201 a2).bind fun t204 => ((delta_Upto.f l1 a2).bind fun t207 => ((delta_Add.f t184 t207).bind fun t210 => ((errataref28_Equal.f kj29 t204 t210).bind fun t213 => (if t213 = true then ((delta_Sub.f l0 l1).bind fun t214 => ((delta_After.f t214 a2).bind fun t217 => ((delta_After.f l1 a2).bind fun t220 => ((delta_Sub.f t187 t220).bind fun t223 => ((errataref28_Equal.f kj29 t217 t223).bind fun t226 => (if t181 = true then (if x14_29 = true then (if t226 = true then ((delta_Upto.f t184 a3).bind fun t227 => ((delta_Upto.f l0 (mn a2 a3)).bind fun t230 => ((errataref28_Equal.f kj29 t227 t230).bind fun t233 => (some t233)))) else (some false)) else (some false)) else (some false))))))) else (if t181 = true then (if x14_29 = true then (some false) else (some false)) else (some false))))))) = some r := H
                        have A49 := Aside0.mk A490
                        clear A490
                        replace H := Option.bind_eq_some_iff.mp H
                        obtain ⟨t204, A500, H⟩ := H
                        replace H : ((delta_Upto.f l1 a2).bind fun t207 => ((delta_Add.f t184 t207).bind fun t210 => ((errataref28_Equal.f kj29 t204 t210).bind fun t213 => (if t213 = true then ((delta_Sub.f l0 l1).bind fun t214 => ((delta_After.f t214 a2).bind fun t217 => ((delta_After.f l1 a2).bind fun t220 => ((delta_Sub.f t187 t220).bind fun t223 => ((errataref28_Equal.f kj29 t217 t223).bind fun t226 => (if t181 = true then (if x14_29 = true then (if t226 = true then ((delta_Upto.f t184 a3).bind fun t227 => ((delta_Upto.f l0 (mn a2 a3)).bind fun t230 => ((errataref28_Equal.f kj29 t227 t230).bind fun t233 => (some t233)))) else (some false)) else (some false)) else (some false))))))) else (if t181 = true then (if x14_29 = true then (some false) else (some false)) else (some false)))))) = some r := H
                        have A50 := Aside0.mk A500
                        clear A500
                        replace H := Option.bind_eq_some_iff.mp H
                        obtain ⟨t207, A510, H⟩ := H
                        replace H : ((delta_Add.f t184 t207).bind fun t210 => ((errataref28_Equal.f kj29 t204 t210).bind fun t213 => (if t213 = true then ((delta_Sub.f l0 l1).bind fun t214 => ((delta_After.f t214 a2).bind fun t217 => ((delta_After.f l1 a2).bind fun t220 => ((delta_Sub.f t187 t220).bind fun t223 => ((errataref28_Equal.f kj29 t217 t223).bind fun t226 => (if t181 = true then (if x14_29 = true then (if t226 = true then ((delta_Upto.f t184 a3).bind fun t227 => ((delta_Upto.f l0 (mn a2 a3)).bind fun t230 => ((errataref28_Equal.f kj29 t227 t230).bind fun t233 => (some t233)))) else (some false)) else (some false)) else (some false))))))) else (if t181 = true then (if x14_29 = true then (some false) else (some false)) else (some false))))) = some r := H
                        have A51 := Aside0.mk A510
                        clear A510
                        replace H := Option.bind_eq_some_iff.mp H
                        obtain ⟨t210, A520, H⟩ := H
                        replace H : ((errataref28_Equal.f kj29 t204 t210).bind fun t213 => (if t213 = true then ((delta_Sub.f l0 l1).bind fun t214 => ((delta_After.f t214 a2).bind fun t217 => ((delta_After.f l1 a2).bind fun t220 => ((delta_Sub.f t187 t220).bind fun t223 => ((errataref28_Equal.f kj29 t217 t223).bind fun t226 => (if t181 = true then (if x14_29 = true then (if t226 = true then ((delta_Upto.f t184 a3).bind fun t227 => ((delta_Upto.f l0 (mn a2 a3)).bind fun t230 => ((errataref28_Equal.f kj29 t227 t230).bind fun t233 => (some t233)))) else (some false)) else (some false)) else (some false))))))) else (if t181 = true then (if x14_29 = true then (some false) else (some false)) else (some false)))) = some r := H
                        have A52 := Aside0.mk A520
                        clear A520
                        replace H := Option.bind_eq_some_iff.mp H
                        obtain ⟨t213, A530, H⟩ := H
                        replace H : (if t213 = true then ((delta_Sub.f l0 l1).bind fun t214 => ((delta_After.f t214 a2).bind fun t217 => ((delta_After.f l1 a2).bind fun t220 => ((delta_Sub.f t187 t220).bind fun t223 => ((errataref28_Equal.f kj29 t217 t223).bind fun t226 => (if t181 = true then (if x14_29 = true then (if t226 = true then ((delta_Upto.f t184 a3).bind fun t227 => ((delta_Upto.f l0 (mn a2 a3)).bind fun t230 => ((errataref28_Equal.f kj29 t227 t230).bind fun t233 => (some t233)))) else (some false)) else (some false)) else (some false))))))) else (if t181 = true then (if x14_29 = true then (some false) else (some false)) else (some false))) = some r := H
                        have A53 := Aside0.mk A530
                        clear A530
                        by_cases c54 : t213 = true
                        · subst c54
                          have H1 : ((delta_Sub.f l0 l1).bind fun t214 => ((delta_After.f t214 a2).bind fun t217 => ((delta_After.f l1 a2).bind fun t220 => ((delta_Sub.f t187 t220).bind fun t223 => ((errataref28_Equal.f kj29 t217 t223).bind fun t226 => (if t181 = true then (if x14_29 = true then (if t226 = true then ((delta_Upto.f t184 a3).bind fun t227 => ((delta_Upto.f l0 (mn a2 a3)).bind fun t230 => ((errataref28_Equal.f kj29 t227 t230).bind fun t233 => (some t233)))) else (some false)) else (some false)) else (some false))))))) = some r := by rw [if_pos rfl] at H; exact H
                          clear H
                          have H := H1
                          clear H1
                          replace H := Option.bind_eq_some_iff.mp H
                          obtain ⟨t214, A550, H⟩ := H
                          replace H : ((delta_After.f t214 a2).bind fun t217 => ((delta_After.f l1 a2).bind fun t220 => ((delta_Sub.f t187 t220).bind fun t223 => ((errataref28_Equal.f kj29 t217 t223).bind fun t226 => (if t181 = true then (if x14_29 = true then (if t226 = true then ((delta_Upto.f t184 a3).bind fun t227 => ((delta_Upto.f l0 (mn a2 a3)).bind fun t230 => ((errataref28_Equal.f kj29 t227 t230).bind fun t233 => (some t233)))) else (some false)) else (some false)) else (some false)))))) = some r := H
                          have A55 := Aside0.mk A550
                          clear A550
                          replace H := Option.bind_eq_some_iff.mp H
                          obtain ⟨t217, A560, H⟩ := H
                          replace H : ((delta_After.f l1 a2).bind fun t220 => ((delta_Sub.f t187 t220).bind fun t223 => ((errataref28_Equal.f kj29 t217 t223).bind fun t226 => (if t181 = true then (if x14_29 = true then (if t226 = true then ((delta_Upto.f t184 a3).bind fun t227 => ((delta_Upto.f l0 (mn a2 a3)).bind fun t230 => ((errataref28_Equal.f kj29 t227 t230).bind fun t233 => (some t233)))) else (some false)) else (some false)) else (some false))))) = some r := H
                          have A56 := Aside0.mk A560
                          clear A560
                          replace H := Option.bind_eq_some_iff.mp H
                          obtain ⟨t220, A570, H⟩ := H
                          replace H : ((delta_Sub.f t187 t220).bind fun t223 => ((errataref28_Equal.f kj29 t217 t223).bind fun t226 => (if t181 = true then (if x14_29 = true then (if t226 = true then ((delta_Upto.f t184 a3).bind fun t227 => ((delta_Upto.f l0 (mn a2 a3)).bind fun t230 => ((errataref28_Equal.f kj29 t227 t230).bind fun t233 => (some t233)))) else (some false)) else (some false)) else (some false)))) = some r := H
                          have A57 := Aside0.mk A570
                          clear A570
                          replace H := Option.bind_eq_some_iff.mp H
                          obtain ⟨t223, A580, H⟩ := H
                          replace H : ((errataref28_Equal.f kj29 t217 t223).bind fun t226 => (if t181 = true then (if x14_29 = true then (if t226 = true then ((delta_Upto.f t184 a3).bind fun t227 => ((delta_Upto.f l0 (mn a2 a3)).bind fun t230 => ((errataref28_Equal.f kj29 t227 t230).bind fun t233 => (some t233)))) else (some false)) else (some false)) else (some false))) = some r := H
                          have A58 := Aside0.mk A580
                          clear A580
                          replace H := Option.bind_eq_some_iff.mp H
                          obtain ⟨t226, A590, H⟩ := H
                          replace H : (if t181 = true then (if x14_29 = true then (if t226 = true then ((delta_Upto.f t184 a3).bind fun t227 => ((delta_Upto.f l0 (mn a2 a3)).bind fun t230 => ((errataref28_Equal.f kj29 t227 t230).bind fun t233 => (some t233)))) else (some false)) else (some false)) else (some false)) = some r := H
                          have A59 := Aside0.mk A590
                          clear A590
                          by_cases c60 : t181 = true
                          · subst c60
                            have H1 : (if x14_29 = true then (if t226 = true then ((delta_Upto.f t184 a3).bind fun t227 => ((delta_Upto.f l0 (mn a2 a3)).bind fun t230 => ((errataref28_Equal.f kj29 t227 t230).bind fun t233 => (some t233)))) else (some false)) else (some false)) = some r := by rw [if_pos rfl] at H; exact H
                            clear H
                            have H := H1
                            clear H1
                            by_cases c61 : x14_29 = true
                            · subst c61
                              have H1 : (if t226 = true then ((delta_Upto.f t184 a3).bind fun t227 => ((delta_Upto.f l0 (mn a2 a3)).bind fun t230 => ((errataref28_Equal.f kj29 t227 t230).bind fun t233 => (some t233)))) else (some false)) = some r := by rw [if_pos rfl] at H; exact H
                              clear H
                              have H := H1
                              clear H1
                              by_cases c62 : t226 = true
                              · subst c62
                                have H1 : ((delta_Upto.f t184 a3).bind fun t227 => ((delta_Upto.f l0 (mn a2 a3)).bind fun t230 => ((errataref28_Equal.f kj29 t227 t230).bind fun t233 => (some t233)))) = some r := by rw [if_pos rfl] at H; exact H
                                clear H
                                have H := H1
                                clear H1
                                replace H := Option.bind_eq_some_iff.mp H
                                obtain ⟨t227, A630, H⟩ := H
                                replace H : ((delta_Upto.f l0 (mn a2 a3)).bind fun t230 => ((errataref28_Equal.f kj29 t227 t230).bind fun t233 => (some t233))) = some r := H
                                have A63 := Aside0.mk A630
                                clear A630
                                obtain ⟨ji64, hji64⟩ : ∃ j_ : Int, (mn a2 a3) = j_ := ⟨_, rfl⟩
                                replace H : ((delta_Upto.f l0 (ji64)).bind fun t230 => ((errataref28_Equal.f kj29 t227 t230).bind fun t233 => (some t233))) = some r := by first | (rw [hji64] at H; exact H) | (simp only [hji64] at H ⊢; exact H)
                                (try rw [hji64] at A49)
                                (try rw [hji64] at A50)
                                (try rw [hji64] at A51)
                                (try rw [hji64] at A52)
                                (try rw [hji64] at A53)
                                (try rw [hji64] at A55)
                                (try rw [hji64] at A56)
                                (try rw [hji64] at A57)
                                (try rw [hji64] at A58)
                                (try rw [hji64] at A59)
                                (try rw [hji64] at A63)
                                have hji64_ : (if a3 < a2 then a3 else a2) = ji64 := hji64
                                replace H := Option.bind_eq_some_iff.mp H
                                obtain ⟨t230, A650, H⟩ := H
                                replace H : ((errataref28_Equal.f kj29 t227 t230).bind fun t233 => (some t233)) = some r := H
                                have A65 := Aside0.mk A650
                                clear A650
                                replace H := Option.bind_eq_some_iff.mp H
                                obtain ⟨t233, A660, H⟩ := H
                                replace H : (some t233) = some r := H
                                have A66 := Aside0.mk A660
                                clear A660
                                obtain rfl := Option.some.inj H
                                go_wp2_with (first | ((with_reducible refine gate_callee (f := 16) rfl ?_); refine goesL_ (some 74) rfl rfl Tryd.func16 (by kernel_rfl) rfl #[.slice A0 l0.length c0, .slice A1 l1.length c1] rfl Cmp.au ?_; (with_reducible refine (delta_Add.calls _ _ l0 _ _ l1 t201 _ ?side1 ?side2 ?side3 ?side4 A49.out).mono ?_); (case side1 => exact Cmp.cb (Kd.C_below HR0.out HB.out)); (case side2 => exact HC0.out); (case side3 => exact Cmp.cb (Kd.C_below HR1.out HB.out)); (case side4 => exact HC1.out); rintro e w67 ⟨v202, rfl, ho0, hb⟩; refine ⟨_, rfl, ?_⟩; have n0_ := Aside0.mk (Cmp.vb hb HO_10.out); have n1_ := Aside0.mk (Cmp.vb hb HO_11.out); have n2_ := Aside0.mk (Kd.V_lower (Kd.V_mono (ok' := fun k_ => True) ho0 (fun k_ hk_ => trivial)) (below_size (Cmp.bq HB.out))); have n3_ := Aside0.mk (below_step (Cmp.bq HB.out) hb); clear HO_10; clear HO_11; clear HB; have HO_10 := n0_; have HO_11 := n1_; have HO203 := n2_; have HB := n3_; clear n0_ n1_ n2_ n3_; (try clear hb); (try clear hb2); (try clear hk); (try clear hi); (try clear ho0); obtain ⟨Ao68, co68, eo68⟩ := Kd.V_slice HO203.out; subst eo68) | ((with_reducible refine gate_callee (f := 12) rfl ?_); refine goesL_ (some 76) rfl rfl Tryd.func12 (by kernel_rfl) rfl #[.slice Ao68 t201.length co68, .int .i64 a2] rfl Cmp.au ?_; (with_reducible refine (delta_Upto.calls _ _ t201 a2 t204 _ ?side1 ?side2 A50.out).mono ?_); (case side1 => repeat (first | exact (Kd.V_reads' HO203.out).2.2 | (with_reducible refine Kd.C_alloc ?_ _) | (with_reducible refine Kd.C_drewN ?_ _) | (with_reducible refine Kd.C_drew ?_))); (case side2 => exact (Kd.V_reads' HO203.out).2.1); rintro e w69 ⟨v205, rfl, ho0, hb⟩; refine ⟨_, rfl, ?_⟩; have n0_ := Aside0.mk (Cmp.vb hb HO_10.out); have n1_ := Aside0.mk (Cmp.vb hb HO_11.out); have n2_ := Aside0.mk (Cmp.vb hb HO203.out); have n3_ := Aside0.mk (Kd.V_lower (Kd.V_mono (ok' := fun k_ => True) ho0 (fun k_ hk_ => trivial)) (below_size (Cmp.bq HB.out))); have n4_ := Aside0.mk (below_step (Cmp.bq HB.out) hb); clear HO_10; clear HO_11; clear HO203; clear HB; have HO_10 := n0_; have HO_11 := n1_; have HO203 := n2_; have HO206 := n3_; have HB := n4_; clear n0_ n1_ n2_ n3_ n4_; (try clear hb); (try clear hb2); (try clear hk); (try clear hi); (try clear ho0)) | ((with_reducible refine gate_callee (f := 12) rfl ?_); refine goesL_ (some 80) rfl rfl Tryd.func12 (by kernel_rfl) rfl #[.slice A1 l1.length c1, .int .i64 a2] rfl Cmp.au ?_; (with_reducible refine (delta_Upto.calls _ _ l1 a2 t207 _ ?side1 ?side2 A51.out).mono ?_); (case side1 => exact Cmp.cb (Kd.C_below HR1.out HB.out)); (case side2 => exact HC1.out); rintro e w70 ⟨v208, rfl, ho0, hb⟩; refine ⟨_, rfl, ?_⟩; have n0_ := Aside0.mk (Cmp.vb hb HO_10.out); have n1_ := Aside0.mk (Cmp.vb hb HO_11.out); have n2_ := Aside0.mk (Cmp.vb hb HO203.out); have n3_ := Aside0.mk (Cmp.vb hb HO206.out); have n4_ := Aside0.mk (Kd.V_lower (Kd.V_mono (ok' := fun k_ => True) ho0 (fun k_ hk_ => trivial)) (below_size (Cmp.bq HB.out))); have n5_ := Aside0.mk (below_step (Cmp.bq HB.out) hb); clear HO_10; clear HO_11; clear HO203; clear HO206; clear HB; have HO_10 := n0_; have HO_11 := n1_; have HO203 := n2_; have HO206 := n3_; have HO209 := n4_; have HB := n5_; clear n0_ n1_ n2_ n3_ n4_ n5_; (try clear hb); (try clear hb2); (try clear hk); (try clear hi); (try clear ho0); obtain ⟨Ao71, co71, eo71⟩ := Kd.V_slice HO209.out; subst eo71) | ((with_reducible refine gate_callee (f := 16) rfl ?_); refine goesL_ (some 81) rfl rfl Tryd.func16 (by kernel_rfl) rfl #[.slice Ao24 t184.length co24, .slice Ao71 t207.length co71] rfl Cmp.au ?_; (with_reducible refine (delta_Add.calls _ _ t184 _ _ t207 t210 _ ?side1 ?side2 ?side3 ?side4 A52.out).mono ?_); (case side1 => repeat (first | exact (Kd.V_reads' HO_10.out).2.2 | (with_reducible refine Kd.C_alloc ?_ _) | (with_reducible refine Kd.C_drewN ?_ _) | (with_reducible refine Kd.C_drew ?_))); (case side2 => exact (Kd.V_reads' HO_10.out).2.1); (case side3 => repeat (first | exact (Kd.V_reads' HO209.out).2.2 | (with_reducible refine Kd.C_alloc ?_ _) | (with_reducible refine Kd.C_drewN ?_ _) | (with_reducible refine Kd.C_drew ?_))); (case side4 => exact (Kd.V_reads' HO209.out).2.1); rintro e w72 ⟨v211, rfl, ho0, hb⟩; refine ⟨_, rfl, ?_⟩; have n0_ := Aside0.mk (Cmp.vb hb HO_10.out); have n1_ := Aside0.mk (Cmp.vb hb HO_11.out); have n2_ := Aside0.mk (Cmp.vb hb HO203.out); have n3_ := Aside0.mk (Cmp.vb hb HO206.out); have n4_ := Aside0.mk (Cmp.vb hb HO209.out); have n5_ := Aside0.mk (Kd.V_lower (Kd.V_mono (ok' := fun k_ => True) ho0 (fun k_ hk_ => trivial)) (below_size (Cmp.bq HB.out))); have n6_ := Aside0.mk (below_step (Cmp.bq HB.out) hb); clear HO_10; clear HO_11; clear HO203; clear HO206; clear HO209; clear HB; have HO_10 := n0_; have HO_11 := n1_; have HO203 := n2_; have HO206 := n3_; have HO209 := n4_; have HO212 := n5_; have HB := n6_; clear n0_ n1_ n2_ n3_ n4_ n5_ n6_; (try clear hb); (try clear hb2); (try clear hk); (try clear hi); (try clear ho0); obtain ⟨Ao73, co73, eo73⟩ := Kd.V_slice HO206.out; subst eo73; obtain ⟨Ao74, co74, eo74⟩ := Kd.V_slice HO212.out; subst eo74) | ((with_reducible refine gate_callee (f := 15) rfl ?_); refine goesL_ (some 82) rfl rfl Tryd.func15 (by kernel_rfl) rfl #[.slice Ao73 t204.length co73, .slice Ao74 t210.length co74] rfl Cmp.au ?_; (with_reducible refine (errataref28_Equal.calls kj29 _ _ t204 _ _ t210 true _ ?side1 ?side2 ?side3 ?side4 A53.out).mono ?_); (case side1 => repeat (first | exact (Kd.V_reads' HO206.out).2.2 | (with_reducible refine Kd.C_alloc ?_ _) | (with_reducible refine Kd.C_drewN ?_ _) | (with_reducible refine Kd.C_drew ?_))); (case side2 => exact (Kd.V_reads' HO206.out).2.1); (case side3 => repeat (first | exact (Kd.V_reads' HO212.out).2.2 | (with_reducible refine Kd.C_alloc ?_ _) | (with_reducible refine Kd.C_drewN ?_ _) | (with_reducible refine Kd.C_drew ?_))); (case side4 => exact (Kd.V_reads' HO212.out).2.1); rintro e w75 ⟨rfl, hb⟩; refine ⟨_, rfl, ?_⟩; have n0_ := Aside0.mk (Cmp.vb hb HO_10.out); have n1_ := Aside0.mk (Cmp.vb hb HO_11.out); have n2_ := Aside0.mk (Cmp.vb hb HO203.out); have n3_ := Aside0.mk (Cmp.vb hb HO206.out); have n4_ := Aside0.mk (Cmp.vb hb HO209.out); have n5_ := Aside0.mk (Cmp.vb hb HO212.out); have n6_ := Aside0.mk (below_step (Cmp.bq HB.out) hb); clear HO_10; clear HO_11; clear HO203; clear HO206; clear HO209; clear HO212; clear HB; have HO_10 := n0_; have HO_11 := n1_; have HO203 := n2_; have HO206 := n3_; have HO209 := n4_; have HO212 := n5_; have HB := n6_; clear n0_ n1_ n2_ n3_ n4_ n5_ n6_; (try clear hb); (try clear hb2); (try clear hk); (try clear hi)) | (go_at_call 18; (with_reducible refine (delta_Sub.calls _ _ l0 _ _ l1 t214 _ ?side1 ?side2 ?side3 ?side4 A55.out).mono ?_); (case side1 => exact Cmp.cb (Kd.C_below HR0.out HB.out)); (case side2 => exact HC0.out); (case side3 => exact Cmp.cb (Kd.C_below HR1.out HB.out)); (case side4 => exact HC1.out); rintro e w76 ⟨v215, rfl, ho0, hb⟩; have n0_ := Aside0.mk (Cmp.vb hb HO_10.out); have n1_ := Aside0.mk (Cmp.vb hb HO_11.out); have n2_ := Aside0.mk (Cmp.vb hb HO203.out); have n3_ := Aside0.mk (Cmp.vb hb HO206.out); have n4_ := Aside0.mk (Cmp.vb hb HO209.out); have n5_ := Aside0.mk (Cmp.vb hb HO212.out); have n6_ := Aside0.mk (Kd.V_lower (Kd.V_mono (ok' := fun k_ => True) ho0 (fun k_ hk_ => trivial)) (below_size (Cmp.bq HB.out))); have n7_ := Aside0.mk (below_step (Cmp.bq HB.out) hb); clear HO_10; clear HO_11; clear HO203; clear HO206; clear HO209; clear HO212; clear HB; have HO_10 := n0_; have HO_11 := n1_; have HO203 := n2_; have HO206 := n3_; have HO209 := n4_; have HO212 := n5_; have HO216 := n6_; have HB := n7_; clear n0_ n1_ n2_ n3_ n4_ n5_ n6_ n7_; (try clear hb); (try clear hb2); (try clear hk); (try clear hi); (try clear ho0); obtain ⟨Ao77, co77, eo77⟩ := Kd.V_slice HO216.out; subst eo77) | (go_at_call 13; (with_reducible refine (delta_After.calls _ _ t214 a2 t217 _ ?side1 ?side2 A56.out).mono ?_); (case side1 => repeat (first | exact (Kd.V_reads' HO216.out).2.2 | (with_reducible refine Kd.C_alloc ?_ _) | (with_reducible refine Kd.C_drewN ?_ _) | (with_reducible refine Kd.C_drew ?_))); (case side2 => exact (Kd.V_reads' HO216.out).2.1); rintro e w78 ⟨v218, rfl, ho0, hb⟩; have n0_ := Aside0.mk (Cmp.vb hb HO_10.out); have n1_ := Aside0.mk (Cmp.vb hb HO_11.out); have n2_ := Aside0.mk (Cmp.vb hb HO203.out); have n3_ := Aside0.mk (Cmp.vb hb HO206.out); have n4_ := Aside0.mk (Cmp.vb hb HO209.out); have n5_ := Aside0.mk (Cmp.vb hb HO212.out); have n6_ := Aside0.mk (Cmp.vb hb HO216.out); have n7_ := Aside0.mk (Kd.V_lower (Kd.V_mono (ok' := fun k_ => True) ho0 (fun k_ hk_ => trivial)) (below_size (Cmp.bq HB.out))); have n8_ := Aside0.mk (below_step (Cmp.bq HB.out) hb); clear HO_10; clear HO_11; clear HO203; clear HO206; clear HO209; clear HO212; clear HO216; clear HB; have HO_10 := n0_; have HO_11 := n1_; have HO203 := n2_; have HO206 := n3_; have HO209 := n4_; have HO212 := n5_; have HO216 := n6_; have HO219 := n7_; have HB := n8_; clear n0_ n1_ n2_ n3_ n4_ n5_ n6_ n7_ n8_; (try clear hb); (try clear hb2); (try clear hk); (try clear hi); (try clear ho0)) | (go_at_call 13; (with_reducible refine (delta_After.calls _ _ l1 a2 t220 _ ?side1 ?side2 A57.out).mono ?_); (case side1 => exact Cmp.cb (Kd.C_below HR1.out HB.out)); (case side2 => exact HC1.out); rintro e w79 ⟨v221, rfl, ho0, hb⟩; have n0_ := Aside0.mk (Cmp.vb hb HO_10.out); have n1_ := Aside0.mk (Cmp.vb hb HO_11.out); have n2_ := Aside0.mk (Cmp.vb hb HO203.out); have n3_ := Aside0.mk (Cmp.vb hb HO206.out); have n4_ := Aside0.mk (Cmp.vb hb HO209.out); have n5_ := Aside0.mk (Cmp.vb hb HO212.out); have n6_ := Aside0.mk (Cmp.vb hb HO216.out); have n7_ := Aside0.mk (Cmp.vb hb HO219.out); have n8_ := Aside0.mk (Kd.V_lower (Kd.V_mono (ok' := fun k_ => True) ho0 (fun k_ hk_ => trivial)) (below_size (Cmp.bq HB.out))); have n9_ := Aside0.mk (below_step (Cmp.bq HB.out) hb); clear HO_10; clear HO_11; clear HO203; clear HO206; clear HO209; clear HO212; clear HO216; clear HO219; clear HB; have HO_10 := n0_; have HO_11 := n1_; have HO203 := n2_; have HO206 := n3_; have HO209 := n4_; have HO212 := n5_; have HO216 := n6_; have HO219 := n7_; have HO222 := n8_; have HB := n9_; clear n0_ n1_ n2_ n3_ n4_ n5_ n6_ n7_ n8_ n9_; (try clear hb); (try clear hb2); (try clear hk); (try clear hi); (try clear ho0); obtain ⟨Ao80, co80, eo80⟩ := Kd.V_slice HO222.out; subst eo80) | (go_at_call 18; (with_reducible refine (delta_Sub.calls _ _ t187 _ _ t220 t223 _ ?side1 ?side2 ?side3 ?side4 A58.out).mono ?_); (case side1 => repeat (first | exact (Kd.V_reads' HO_11.out).2.2 | (with_reducible refine Kd.C_alloc ?_ _) | (with_reducible refine Kd.C_drewN ?_ _) | (with_reducible refine Kd.C_drew ?_))); (case side2 => exact (Kd.V_reads' HO_11.out).2.1); (case side3 => repeat (first | exact (Kd.V_reads' HO222.out).2.2 | (with_reducible refine Kd.C_alloc ?_ _) | (with_reducible refine Kd.C_drewN ?_ _) | (with_reducible refine Kd.C_drew ?_))); (case side4 => exact (Kd.V_reads' HO222.out).2.1); rintro e w81 ⟨v224, rfl, ho0, hb⟩; have n0_ := Aside0.mk (Cmp.vb hb HO_10.out); have n1_ := Aside0.mk (Cmp.vb hb HO_11.out); have n2_ := Aside0.mk (Cmp.vb hb HO203.out); have n3_ := Aside0.mk (Cmp.vb hb HO206.out); have n4_ := Aside0.mk (Cmp.vb hb HO209.out); have n5_ := Aside0.mk (Cmp.vb hb HO212.out); have n6_ := Aside0.mk (Cmp.vb hb HO216.out); have n7_ := Aside0.mk (Cmp.vb hb HO219.out); have n8_ := Aside0.mk (Cmp.vb hb HO222.out); have n9_ := Aside0.mk (Kd.V_lower (Kd.V_mono (ok' := fun k_ => True) ho0 (fun k_ hk_ => trivial)) (below_size (Cmp.bq HB.out))); have n10_ := Aside0.mk (below_step (Cmp.bq HB.out) hb); clear HO_10; clear HO_11; clear HO203; clear HO206; clear HO209; clear HO212; clear HO216; clear HO219; clear HO222; clear HB; have HO_10 := n0_; have HO_11 := n1_; have HO203 := n2_; have HO206 := n3_; have HO209 := n4_; have HO212 := n5_; have HO216 := n6_; have HO219 := n7_; have HO222 := n8_; have HO225 := n9_; have HB := n10_; clear n0_ n1_ n2_ n3_ n4_ n5_ n6_ n7_ n8_ n9_ n10_; (try clear hb); (try clear hb2); (try clear hk); (try clear hi); (try clear ho0); obtain ⟨Ao82, co82, eo82⟩ := Kd.V_slice HO219.out; subst eo82; obtain ⟨Ao83, co83, eo83⟩ := Kd.V_slice HO225.out; subst eo83) | (go_at_call 15; (with_reducible refine (errataref28_Equal.calls kj29 _ _ t217 _ _ t223 true _ ?side1 ?side2 ?side3 ?side4 A59.out).mono ?_); (case side1 => repeat (first | exact (Kd.V_reads' HO219.out).2.2 | (with_reducible refine Kd.C_alloc ?_ _) | (with_reducible refine Kd.C_drewN ?_ _) | (with_reducible refine Kd.C_drew ?_))); (case side2 => exact (Kd.V_reads' HO219.out).2.1); (case side3 => repeat (first | exact (Kd.V_reads' HO225.out).2.2 | (with_reducible refine Kd.C_alloc ?_ _) | (with_reducible refine Kd.C_drewN ?_ _) | (with_reducible refine Kd.C_drew ?_))); (case side4 => exact (Kd.V_reads' HO225.out).2.1); rintro e w84 ⟨rfl, hb⟩; have n0_ := Aside0.mk (Cmp.vb hb HO_10.out); have n1_ := Aside0.mk (Cmp.vb hb HO_11.out); have n2_ := Aside0.mk (Cmp.vb hb HO203.out); have n3_ := Aside0.mk (Cmp.vb hb HO206.out); have n4_ := Aside0.mk (Cmp.vb hb HO209.out); have n5_ := Aside0.mk (Cmp.vb hb HO212.out); have n6_ := Aside0.mk (Cmp.vb hb HO216.out); have n7_ := Aside0.mk (Cmp.vb hb HO219.out); have n8_ := Aside0.mk (Cmp.vb hb HO222.out); have n9_ := Aside0.mk (Cmp.vb hb HO225.out); have n10_ := Aside0.mk (below_step (Cmp.bq HB.out) hb); clear HO_10; clear HO_11; clear HO203; clear HO206; clear HO209; clear HO212; clear HO216; clear HO219; clear HO222; clear HO225; clear HB; have HO_10 := n0_; have HO_11 := n1_; have HO203 := n2_; have HO206 := n3_; have HO209 := n4_; have HO212 := n5_; have HO216 := n6_; have HO219 := n7_; have HO222 := n8_; have HO225 := n9_; have HB := n10_; clear n0_ n1_ n2_ n3_ n4_ n5_ n6_ n7_ n8_ n9_ n10_; (try clear hb); (try clear hb2); (try clear hk); (try clear hi)) | (go_at_call 12; (with_reducible refine (delta_Upto.calls _ _ t184 a3 t227 _ ?side1 ?side2 A63.out).mono ?_); (case side1 => repeat (first | exact (Kd.V_reads' HO_10.out).2.2 | (with_reducible refine Kd.C_alloc ?_ _) | (with_reducible refine Kd.C_drewN ?_ _) | (with_reducible refine Kd.C_drew ?_))); (case side2 => exact (Kd.V_reads' HO_10.out).2.1); rintro e w85 ⟨v228, rfl, ho0, hb⟩; have n0_ := Aside0.mk (Cmp.vb hb HO_10.out); have n1_ := Aside0.mk (Cmp.vb hb HO_11.out); have n2_ := Aside0.mk (Cmp.vb hb HO203.out); have n3_ := Aside0.mk (Cmp.vb hb HO206.out); have n4_ := Aside0.mk (Cmp.vb hb HO209.out); have n5_ := Aside0.mk (Cmp.vb hb HO212.out); have n6_ := Aside0.mk (Cmp.vb hb HO216.out); have n7_ := Aside0.mk (Cmp.vb hb HO219.out); have n8_ := Aside0.mk (Cmp.vb hb HO222.out); have n9_ := Aside0.mk (Cmp.vb hb HO225.out); have n10_ := Aside0.mk (Kd.V_lower (Kd.V_mono (ok' := fun k_ => True) ho0 (fun k_ hk_ => trivial)) (below_size (Cmp.bq HB.out))); have n11_ := Aside0.mk (below_step (Cmp.bq HB.out) hb); clear HO_10; clear HO_11; clear HO203; clear HO206; clear HO209; clear HO212; clear HO216; clear HO219; clear HO222; clear HO225; clear HB; have HO_10 := n0_; have HO_11 := n1_; have HO203 := n2_; have HO206 := n3_; have HO209 := n4_; have HO212 := n5_; have HO216 := n6_; have HO219 := n7_; have HO222 := n8_; have HO225 := n9_; have HO229 := n10_; have HB := n11_; clear n0_ n1_ n2_ n3_ n4_ n5_ n6_ n7_ n8_ n9_ n10_ n11_; (try clear hb); (try clear hb2); (try clear hk); (try clear hi); (try clear ho0)) | (go_at_call 12; (with_reducible refine (delta_Upto.calls _ _ l0 ji64 t230 _ ?side1 ?side2 A65.out).mono ?_); (case side1 => exact Cmp.cb (Kd.C_below HR0.out HB.out)); (case side2 => exact HC0.out); rintro e w86 ⟨v231, rfl, ho0, hb⟩; have n0_ := Aside0.mk (Cmp.vb hb HO_10.out); have n1_ := Aside0.mk (Cmp.vb hb HO_11.out); have n2_ := Aside0.mk (Cmp.vb hb HO203.out); have n3_ := Aside0.mk (Cmp.vb hb HO206.out); have n4_ := Aside0.mk (Cmp.vb hb HO209.out); have n5_ := Aside0.mk (Cmp.vb hb HO212.out); have n6_ := Aside0.mk (Cmp.vb hb HO216.out); have n7_ := Aside0.mk (Cmp.vb hb HO219.out); have n8_ := Aside0.mk (Cmp.vb hb HO222.out); have n9_ := Aside0.mk (Cmp.vb hb HO225.out); have n10_ := Aside0.mk (Cmp.vb hb HO229.out); have n11_ := Aside0.mk (Kd.V_lower (Kd.V_mono (ok' := fun k_ => True) ho0 (fun k_ hk_ => trivial)) (below_size (Cmp.bq HB.out))); have n12_ := Aside0.mk (below_step (Cmp.bq HB.out) hb); clear HO_10; clear HO_11; clear HO203; clear HO206; clear HO209; clear HO212; clear HO216; clear HO219; clear HO222; clear HO225; clear HO229; clear HB; have HO_10 := n0_; have HO_11 := n1_; have HO203 := n2_; have HO206 := n3_; have HO209 := n4_; have HO212 := n5_; have HO216 := n6_; have HO219 := n7_; have HO222 := n8_; have HO225 := n9_; have HO229 := n10_; have HO232 := n11_; have HB := n12_; clear n0_ n1_ n2_ n3_ n4_ n5_ n6_ n7_ n8_ n9_ n10_ n11_ n12_; (try clear hb); (try clear hb2); (try clear hk); (try clear hi); (try clear ho0); obtain ⟨Ao87, co87, eo87⟩ := Kd.V_slice HO229.out; subst eo87; obtain ⟨Ao88, co88, eo88⟩ := Kd.V_slice HO232.out; subst eo88) | (go_at_call 15; (with_reducible refine (errataref28_Equal.calls kj29 _ _ t227 _ _ t230 t233 _ ?side1 ?side2 ?side3 ?side4 A66.out).mono ?_); (case side1 => repeat (first | exact (Kd.V_reads' HO229.out).2.2 | (with_reducible refine Kd.C_alloc ?_ _) | (with_reducible refine Kd.C_drewN ?_ _) | (with_reducible refine Kd.C_drew ?_))); (case side2 => exact (Kd.V_reads' HO229.out).2.1); (case side3 => repeat (first | exact (Kd.V_reads' HO232.out).2.2 | (with_reducible refine Kd.C_alloc ?_ _) | (with_reducible refine Kd.C_drewN ?_ _) | (with_reducible refine Kd.C_drew ?_))); (case side4 => exact (Kd.V_reads' HO232.out).2.1); rintro e w89 ⟨rfl, hb⟩; have n0_ := Aside0.mk (Cmp.vb hb HO_10.out); have n1_ := Aside0.mk (Cmp.vb hb HO_11.out); have n2_ := Aside0.mk (Cmp.vb hb HO203.out); have n3_ := Aside0.mk (Cmp.vb hb HO206.out); have n4_ := Aside0.mk (Cmp.vb hb HO209.out); have n5_ := Aside0.mk (Cmp.vb hb HO212.out); have n6_ := Aside0.mk (Cmp.vb hb HO216.out); have n7_ := Aside0.mk (Cmp.vb hb HO219.out); have n8_ := Aside0.mk (Cmp.vb hb HO222.out); have n9_ := Aside0.mk (Cmp.vb hb HO225.out); have n10_ := Aside0.mk (Cmp.vb hb HO229.out); have n11_ := Aside0.mk (Cmp.vb hb HO232.out); have n12_ := Aside0.mk (below_step (Cmp.bq HB.out) hb); clear HO_10; clear HO_11; clear HO203; clear HO206; clear HO209; clear HO212; clear HO216; clear HO219; clear HO222; clear HO225; clear HO229; clear HO232; clear HB; have HO_10 := n0_; have HO_11 := n1_; have HO203 := n2_; have HO206 := n3_; have HO209 := n4_; have HO212 := n5_; have HO216 := n6_; have HO219 := n7_; have HO222 := n8_; have HO225 := n9_; have HO229 := n10_; have HO232 := n11_; have HB := n12_; clear n0_ n1_ n2_ n3_ n4_ n5_ n6_ n7_ n8_ n9_ n10_ n11_ n12_; (try clear hb); (try clear hb2); (try clear hk); (try clear hi)))
                                go_ret
                                exact ⟨by first | rfl | (simp [errW_none, errW_some] <;> rfl) | (simp only [← hji64]; first | rfl | (simp [errW_none, errW_some] <;> rfl)) | (simp [*, errW_none, errW_some] <;> rfl), by repeat (first | (with_reducible first | exact HB.out | apply below_alloc | apply pw_below_drewN | apply below_drew1) | exact HB.out)⟩
                              · replace c62 := Bool.eq_false_iff.mpr c62
                                subst c62
                                have H1 : (some false) = some r := by rw [if_neg (show ¬ (false = true) by decide)] at H; exact H
                                clear H
                                have H := H1
                                clear H1
                                obtain rfl := Option.some.inj H
                                go_wp2_with (first | ((with_reducible refine gate_callee (f := 16) rfl ?_); refine goesL_ (some 74) rfl rfl Tryd.func16 (by kernel_rfl) rfl #[.slice A0 l0.length c0, .slice A1 l1.length c1] rfl Cmp.au ?_; (with_reducible refine (delta_Add.calls _ _ l0 _ _ l1 t201 _ ?side1 ?side2 ?side3 ?side4 A49.out).mono ?_); (case side1 => exact Cmp.cb (Kd.C_below HR0.out HB.out)); (case side2 => exact HC0.out); (case side3 => exact Cmp.cb (Kd.C_below HR1.out HB.out)); (case side4 => exact HC1.out); rintro e w90 ⟨v202, rfl, ho0, hb⟩; refine ⟨_, rfl, ?_⟩; have n0_ := Aside0.mk (Cmp.vb hb HO_10.out); have n1_ := Aside0.mk (Cmp.vb hb HO_11.out); have n2_ := Aside0.mk (Kd.V_lower (Kd.V_mono (ok' := fun k_ => True) ho0 (fun k_ hk_ => trivial)) (below_size (Cmp.bq HB.out))); have n3_ := Aside0.mk (below_step (Cmp.bq HB.out) hb); clear HO_10; clear HO_11; clear HB; have HO_10 := n0_; have HO_11 := n1_; have HO203 := n2_; have HB := n3_; clear n0_ n1_ n2_ n3_; (try clear hb); (try clear hb2); (try clear hk); (try clear hi); (try clear ho0); obtain ⟨Ao91, co91, eo91⟩ := Kd.V_slice HO203.out; subst eo91) | ((with_reducible refine gate_callee (f := 12) rfl ?_); refine goesL_ (some 76) rfl rfl Tryd.func12 (by kernel_rfl) rfl #[.slice Ao91 t201.length co91, .int .i64 a2] rfl Cmp.au ?_; (with_reducible refine (delta_Upto.calls _ _ t201 a2 t204 _ ?side1 ?side2 A50.out).mono ?_); (case side1 => repeat (first | exact (Kd.V_reads' HO203.out).2.2 | (with_reducible refine Kd.C_alloc ?_ _) | (with_reducible refine Kd.C_drewN ?_ _) | (with_reducible refine Kd.C_drew ?_))); (case side2 => exact (Kd.V_reads' HO203.out).2.1); rintro e w92 ⟨v205, rfl, ho0, hb⟩; refine ⟨_, rfl, ?_⟩; have n0_ := Aside0.mk (Cmp.vb hb HO_10.out); have n1_ := Aside0.mk (Cmp.vb hb HO_11.out); have n2_ := Aside0.mk (Cmp.vb hb HO203.out); have n3_ := Aside0.mk (Kd.V_lower (Kd.V_mono (ok' := fun k_ => True) ho0 (fun k_ hk_ => trivial)) (below_size (Cmp.bq HB.out))); have n4_ := Aside0.mk (below_step (Cmp.bq HB.out) hb); clear HO_10; clear HO_11; clear HO203; clear HB; have HO_10 := n0_; have HO_11 := n1_; have HO203 := n2_; have HO206 := n3_; have HB := n4_; clear n0_ n1_ n2_ n3_ n4_; (try clear hb); (try clear hb2); (try clear hk); (try clear hi); (try clear ho0)) | ((with_reducible refine gate_callee (f := 12) rfl ?_); refine goesL_ (some 80) rfl rfl Tryd.func12 (by kernel_rfl) rfl #[.slice A1 l1.length c1, .int .i64 a2] rfl Cmp.au ?_; (with_reducible refine (delta_Upto.calls _ _ l1 a2 t207 _ ?side1 ?side2 A51.out).mono ?_); (case side1 => exact Cmp.cb (Kd.C_below HR1.out HB.out)); (case side2 => exact HC1.out); rintro e w93 ⟨v208, rfl, ho0, hb⟩; refine ⟨_, rfl, ?_⟩; have n0_ := Aside0.mk (Cmp.vb hb HO_10.out); have n1_ := Aside0.mk (Cmp.vb hb HO_11.out); have n2_ := Aside0.mk (Cmp.vb hb HO203.out); have n3_ := Aside0.mk (Cmp.vb hb HO206.out); have n4_ := Aside0.mk (Kd.V_lower (Kd.V_mono (ok' := fun k_ => True) ho0 (fun k_ hk_ => trivial)) (below_size (Cmp.bq HB.out))); have n5_ := Aside0.mk (below_step (Cmp.bq HB.out) hb); clear HO_10; clear HO_11; clear HO203; clear HO206; clear HB; have HO_10 := n0_; have HO_11 := n1_; have HO203 := n2_; have HO206 := n3_; have HO209 := n4_; have HB := n5_; clear n0_ n1_ n2_ n3_ n4_ n5_; (try clear hb); (try clear hb2); (try clear hk); (try clear hi); (try clear ho0); obtain ⟨Ao94, co94, eo94⟩ := Kd.V_slice HO209.out; subst eo94) | ((with_reducible refine gate_callee (f := 16) rfl ?_); refine goesL_ (some 81) rfl rfl Tryd.func16 (by kernel_rfl) rfl #[.slice Ao24 t184.length co24, .slice Ao94 t207.length co94] rfl Cmp.au ?_; (with_reducible refine (delta_Add.calls _ _ t184 _ _ t207 t210 _ ?side1 ?side2 ?side3 ?side4 A52.out).mono ?_); (case side1 => repeat (first | exact (Kd.V_reads' HO_10.out).2.2 | (with_reducible refine Kd.C_alloc ?_ _) | (with_reducible refine Kd.C_drewN ?_ _) | (with_reducible refine Kd.C_drew ?_))); (case side2 => exact (Kd.V_reads' HO_10.out).2.1); (case side3 => repeat (first | exact (Kd.V_reads' HO209.out).2.2 | (with_reducible refine Kd.C_alloc ?_ _) | (with_reducible refine Kd.C_drewN ?_ _) | (with_reducible refine Kd.C_drew ?_))); (case side4 => exact (Kd.V_reads' HO209.out).2.1); rintro e w95 ⟨v211, rfl, ho0, hb⟩; refine ⟨_, rfl, ?_⟩; have n0_ := Aside0.mk (Cmp.vb hb HO_10.out); have n1_ := Aside0.mk (Cmp.vb hb HO_11.out); have n2_ := Aside0.mk (Cmp.vb hb HO203.out); have n3_ := Aside0.mk (Cmp.vb hb HO206.out); have n4_ := Aside0.mk (Cmp.vb hb HO209.out); have n5_ := Aside0.mk (Kd.V_lower (Kd.V_mono (ok' := fun k_ => True) ho0 (fun k_ hk_ => trivial)) (below_size (Cmp.bq HB.out))); have n6_ := Aside0.mk (below_step (Cmp.bq HB.out) hb); clear HO_10; clear HO_11; clear HO203; clear HO206; clear HO209; clear HB; have HO_10 := n0_; have HO_11 := n1_; have HO203 := n2_; have HO206 := n3_; have HO209 := n4_; have HO212 := n5_; have HB := n6_; clear n0_ n1_ n2_ n3_ n4_ n5_ n6_; (try clear hb); (try clear hb2); (try clear hk); (try clear hi); (try clear ho0); obtain ⟨Ao96, co96, eo96⟩ := Kd.V_slice HO206.out; subst eo96; obtain ⟨Ao97, co97, eo97⟩ := Kd.V_slice HO212.out; subst eo97) | ((with_reducible refine gate_callee (f := 15) rfl ?_); refine goesL_ (some 82) rfl rfl Tryd.func15 (by kernel_rfl) rfl #[.slice Ao96 t204.length co96, .slice Ao97 t210.length co97] rfl Cmp.au ?_; (with_reducible refine (errataref28_Equal.calls kj29 _ _ t204 _ _ t210 true _ ?side1 ?side2 ?side3 ?side4 A53.out).mono ?_); (case side1 => repeat (first | exact (Kd.V_reads' HO206.out).2.2 | (with_reducible refine Kd.C_alloc ?_ _) | (with_reducible refine Kd.C_drewN ?_ _) | (with_reducible refine Kd.C_drew ?_))); (case side2 => exact (Kd.V_reads' HO206.out).2.1); (case side3 => repeat (first | exact (Kd.V_reads' HO212.out).2.2 | (with_reducible refine Kd.C_alloc ?_ _) | (with_reducible refine Kd.C_drewN ?_ _) | (with_reducible refine Kd.C_drew ?_))); (case side4 => exact (Kd.V_reads' HO212.out).2.1); rintro e w98 ⟨rfl, hb⟩; refine ⟨_, rfl, ?_⟩; have n0_ := Aside0.mk (Cmp.vb hb HO_10.out); have n1_ := Aside0.mk (Cmp.vb hb HO_11.out); have n2_ := Aside0.mk (Cmp.vb hb HO203.out); have n3_ := Aside0.mk (Cmp.vb hb HO206.out); have n4_ := Aside0.mk (Cmp.vb hb HO209.out); have n5_ := Aside0.mk (Cmp.vb hb HO212.out); have n6_ := Aside0.mk (below_step (Cmp.bq HB.out) hb); clear HO_10; clear HO_11; clear HO203; clear HO206; clear HO209; clear HO212; clear HB; have HO_10 := n0_; have HO_11 := n1_; have HO203 := n2_; have HO206 := n3_; have HO209 := n4_; have HO212 := n5_; have HB := n6_; clear n0_ n1_ n2_ n3_ n4_ n5_ n6_; (try clear hb); (try clear hb2); (try clear hk); (try clear hi)) | (go_at_call 18; (with_reducible refine (delta_Sub.calls _ _ l0 _ _ l1 t214 _ ?side1 ?side2 ?side3 ?side4 A55.out).mono ?_); (case side1 => exact Cmp.cb (Kd.C_below HR0.out HB.out)); (case side2 => exact HC0.out); (case side3 => exact Cmp.cb (Kd.C_below HR1.out HB.out)); (case side4 => exact HC1.out); rintro e w99 ⟨v215, rfl, ho0, hb⟩; have n0_ := Aside0.mk (Cmp.vb hb HO_10.out); have n1_ := Aside0.mk (Cmp.vb hb HO_11.out); have n2_ := Aside0.mk (Cmp.vb hb HO203.out); have n3_ := Aside0.mk (Cmp.vb hb HO206.out); have n4_ := Aside0.mk (Cmp.vb hb HO209.out); have n5_ := Aside0.mk (Cmp.vb hb HO212.out); have n6_ := Aside0.mk (Kd.V_lower (Kd.V_mono (ok' := fun k_ => True) ho0 (fun k_ hk_ => trivial)) (below_size (Cmp.bq HB.out))); have n7_ := Aside0.mk (below_step (Cmp.bq HB.out) hb); clear HO_10; clear HO_11; clear HO203; clear HO206; clear HO209; clear HO212; clear HB; have HO_10 := n0_; have HO_11 := n1_; have HO203 := n2_; have HO206 := n3_; have HO209 := n4_; have HO212 := n5_; have HO216 := n6_; have HB := n7_; clear n0_ n1_ n2_ n3_ n4_ n5_ n6_ n7_; (try clear hb); (try clear hb2); (try clear hk); (try clear hi); (try clear ho0); obtain ⟨Ao100, co100, eo100⟩ := Kd.V_slice HO216.out; subst eo100) | (go_at_call 13; (with_reducible refine (delta_After.calls _ _ t214 a2 t217 _ ?side1 ?side2 A56.out).mono ?_); (case side1 => repeat (first | exact (Kd.V_reads' HO216.out).2.2 | (with_reducible refine Kd.C_alloc ?_ _) | (with_reducible refine Kd.C_drewN ?_ _) | (with_reducible refine Kd.C_drew ?_))); (case side2 => exact (Kd.V_reads' HO216.out).2.1); rintro e w101 ⟨v218, rfl, ho0, hb⟩; have n0_ := Aside0.mk (Cmp.vb hb HO_10.out); have n1_ := Aside0.mk (Cmp.vb hb HO_11.out); have n2_ := Aside0.mk (Cmp.vb hb HO203.out); have n3_ := Aside0.mk (Cmp.vb hb HO206.out); have n4_ := Aside0.mk (Cmp.vb hb HO209.out); have n5_ := Aside0.mk (Cmp.vb hb HO212.out); have n6_ := Aside0.mk (Cmp.vb hb HO216.out); have n7_ := Aside0.mk (Kd.V_lower (Kd.V_mono (ok' := fun k_ => True) ho0 (fun k_ hk_ => trivial)) (below_size (Cmp.bq HB.out))); have n8_ := Aside0.mk (below_step (Cmp.bq HB.out) hb); clear HO_10; clear HO_11; clear HO203; clear HO206; clear HO209; clear HO212; clear HO216; clear HB; have HO_10 := n0_; have HO_11 := n1_; have HO203 := n2_; have HO206 := n3_; have HO209 := n4_; have HO212 := n5_; have HO216 := n6_; have HO219 := n7_; have HB := n8_; clear n0_ n1_ n2_ n3_ n4_ n5_ n6_ n7_ n8_; (try clear hb); (try clear hb2); (try clear hk); (try clear hi); (try clear ho0)) | (go_at_call 13; (with_reducible refine (delta_After.calls _ _ l1 a2 t220 _ ?side1 ?side2 A57.out).mono ?_); (case side1 => exact Cmp.cb (Kd.C_below HR1.out HB.out)); (case side2 => exact HC1.out); rintro e w102 ⟨v221, rfl, ho0, hb⟩; have n0_ := Aside0.mk (Cmp.vb hb HO_10.out); have n1_ := Aside0.mk (Cmp.vb hb HO_11.out); have n2_ := Aside0.mk (Cmp.vb hb HO203.out); have n3_ := Aside0.mk (Cmp.vb hb HO206.out); have n4_ := Aside0.mk (Cmp.vb hb HO209.out); have n5_ := Aside0.mk (Cmp.vb hb HO212.out); have n6_ := Aside0.mk (Cmp.vb hb HO216.out); have n7_ := Aside0.mk (Cmp.vb hb HO219.out); have n8_ := Aside0.mk (Kd.V_lower (Kd.V_mono (ok' := fun k_ => True) ho0 (fun k_ hk_ => trivial)) (below_size (Cmp.bq HB.out))); have n9_ := Aside0.mk (below_step (Cmp.bq HB.out) hb); clear HO_10; clear HO_11; clear HO203; clear HO206; clear HO209; clear HO212; clear HO216; clear HO219; clear HB; have HO_10 := n0_; have HO_11 := n1_; have HO203 := n2_; have HO206 := n3_; have HO209 := n4_; have HO212 := n5_; have HO216 := n6_; have HO219 := n7_; have HO222 := n8_; have HB := n9_; clear n0_ n1_ n2_ n3_ n4_ n5_ n6_ n7_ n8_ n9_; (try clear hb); (try clear hb2); (try clear hk); (try clear hi); (try clear ho0); obtain ⟨Ao103, co103, eo103⟩ := Kd.V_slice HO222.out; subst eo103) | (go_at_call 18; (with_reducible refine (delta_Sub.calls _ _ t187 _ _ t220 t223 _ ?side1 ?side2 ?side3 ?side4 A58.out).mono ?_); (case side1 => repeat (first | exact (Kd.V_reads' HO_11.out).2.2 | (with_reducible refine Kd.C_alloc ?_ _) | (with_reducible refine Kd.C_drewN ?_ _) | (with_reducible refine Kd.C_drew ?_))); (case side2 => exact (Kd.V_reads' HO_11.out).2.1); (case side3 => repeat (first | exact (Kd.V_reads' HO222.out).2.2 | (with_reducible refine Kd.C_alloc ?_ _) | (with_reducible refine Kd.C_drewN ?_ _) | (with_reducible refine Kd.C_drew ?_))); (case side4 => exact (Kd.V_reads' HO222.out).2.1); rintro e w104 ⟨v224, rfl, ho0, hb⟩; have n0_ := Aside0.mk (Cmp.vb hb HO_10.out); have n1_ := Aside0.mk (Cmp.vb hb HO_11.out); have n2_ := Aside0.mk (Cmp.vb hb HO203.out); have n3_ := Aside0.mk (Cmp.vb hb HO206.out); have n4_ := Aside0.mk (Cmp.vb hb HO209.out); have n5_ := Aside0.mk (Cmp.vb hb HO212.out); have n6_ := Aside0.mk (Cmp.vb hb HO216.out); have n7_ := Aside0.mk (Cmp.vb hb HO219.out); have n8_ := Aside0.mk (Cmp.vb hb HO222.out); have n9_ := Aside0.mk (Kd.V_lower (Kd.V_mono (ok' := fun k_ => True) ho0 (fun k_ hk_ => trivial)) (below_size (Cmp.bq HB.out))); have n10_ := Aside0.mk (below_step (Cmp.bq HB.out) hb); clear HO_10; clear HO_11; clear HO203; clear HO206; clear HO209; clear HO212; clear HO216; clear HO219; clear HO222; clear HB; have HO_10 := n0_; have HO_11 := n1_; have HO203 := n2_; have HO206 := n3_; have HO209 := n4_; have HO212 := n5_; have HO216 := n6_; have HO219 := n7_; have HO222 := n8_; have HO225 := n9_; have HB := n10_; clear n0_ n1_ n2_ n3_ n4_ n5_ n6_ n7_ n8_ n9_ n10_; (try clear hb); (try clear hb2); (try clear hk); (try clear hi); (try clear ho0); obtain ⟨Ao105, co105, eo105⟩ := Kd.V_slice HO219.out; subst eo105; obtain ⟨Ao106, co106, eo106⟩ := Kd.V_slice HO225.out; subst eo106) | (go_at_call 15; (with_reducible refine (errataref28_Equal.calls kj29 _ _ t217 _ _ t223 false _ ?side1 ?side2 ?side3 ?side4 A59.out).mono ?_); (case side1 => repeat (first | exact (Kd.V_reads' HO219.out).2.2 | (with_reducible refine Kd.C_alloc ?_ _) | (with_reducible refine Kd.C_drewN ?_ _) | (with_reducible refine Kd.C_drew ?_))); (case side2 => exact (Kd.V_reads' HO219.out).2.1); (case side3 => repeat (first | exact (Kd.V_reads' HO225.out).2.2 | (with_reducible refine Kd.C_alloc ?_ _) | (with_reducible refine Kd.C_drewN ?_ _) | (with_reducible refine Kd.C_drew ?_))); (case side4 => exact (Kd.V_reads' HO225.out).2.1); rintro e w107 ⟨rfl, hb⟩; have n0_ := Aside0.mk (Cmp.vb hb HO_10.out); have n1_ := Aside0.mk (Cmp.vb hb HO_11.out); have n2_ := Aside0.mk (Cmp.vb hb HO203.out); have n3_ := Aside0.mk (Cmp.vb hb HO206.out); have n4_ := Aside0.mk (Cmp.vb hb HO209.out); have n5_ := Aside0.mk (Cmp.vb hb HO212.out); have n6_ := Aside0.mk (Cmp.vb hb HO216.out); have n7_ := Aside0.mk (Cmp.vb hb HO219.out); have n8_ := Aside0.mk (Cmp.vb hb HO222.out); have n9_ := Aside0.mk (Cmp.vb hb HO225.out); have n10_ := Aside0.mk (below_step (Cmp.bq HB.out) hb); clear HO_10; clear HO_11; clear HO203; clear HO206; clear HO209; clear HO212; clear HO216; clear HO219; clear HO222; clear HO225; clear HB; have HO_10 := n0_; have HO_11 := n1_; have HO203 := n2_; have HO206 := n3_; have HO209 := n4_; have HO212 := n5_; have HO216 := n6_; have HO219 := n7_; have HO222 := n8_; have HO225 := n9_; have HB := n10_; clear n0_ n1_ n2_ n3_ n4_ n5_ n6_ n7_ n8_ n9_ n10_; (try clear hb); (try clear hb2); (try clear hk); (try clear hi)))
                                go_ret
                                exact ⟨by first | rfl | (simp [errW_none, errW_some] <;> rfl) | (simp [*, errW_none, errW_some] <;> rfl), by repeat (first | (with_reducible first | exact HB.out | apply below_alloc | apply pw_below_drewN | apply below_drew1) | exact HB.out)⟩
                            · replace c61 := Bool.eq_false_iff.mpr c61
                              subst c61
                              have H1 : (some false) = some r := by rw [if_neg (show ¬ (false = true) by decide)] at H; exact H
                              clear H
                              have H := H1
                              clear H1
                              obtain rfl := Option.some.inj H
                              go_wp2_with (first | ((with_reducible refine gate_callee (f := 16) rfl ?_); refine goesL_ (some 74) rfl rfl Tryd.func16 (by kernel_rfl) rfl #[.slice A0 l0.length c0, .slice A1 l1.length c1] rfl Cmp.au ?_; (with_reducible refine (delta_Add.calls _ _ l0 _ _ l1 t201 _ ?side1 ?side2 ?side3 ?side4 A49.out).mono ?_); (case side1 => exact Cmp.cb (Kd.C_below HR0.out HB.out)); (case side2 => exact HC0.out); (case side3 => exact Cmp.cb (Kd.C_below HR1.out HB.out)); (case side4 => exact HC1.out); rintro e w108 ⟨v202, rfl, ho0, hb⟩; refine ⟨_, rfl, ?_⟩; have n0_ := Aside0.mk (Cmp.vb hb HO_10.out); have n1_ := Aside0.mk (Cmp.vb hb HO_11.out); have n2_ := Aside0.mk (Kd.V_lower (Kd.V_mono (ok' := fun k_ => True) ho0 (fun k_ hk_ => trivial)) (below_size (Cmp.bq HB.out))); have n3_ := Aside0.mk (below_step (Cmp.bq HB.out) hb); clear HO_10; clear HO_11; clear HB; have HO_10 := n0_; have HO_11 := n1_; have HO203 := n2_; have HB := n3_; clear n0_ n1_ n2_ n3_; (try clear hb); (try clear hb2); (try clear hk); (try clear hi); (try clear ho0); obtain ⟨Ao109, co109, eo109⟩ := Kd.V_slice HO203.out; subst eo109) | ((with_reducible refine gate_callee (f := 12) rfl ?_); refine goesL_ (some 76) rfl rfl Tryd.func12 (by kernel_rfl) rfl #[.slice Ao109 t201.length co109, .int .i64 a2] rfl Cmp.au ?_; (with_reducible refine (delta_Upto.calls _ _ t201 a2 t204 _ ?side1 ?side2 A50.out).mono ?_); (case side1 => repeat (first | exact (Kd.V_reads' HO203.out).2.2 | (with_reducible refine Kd.C_alloc ?_ _) | (with_reducible refine Kd.C_drewN ?_ _) | (with_reducible refine Kd.C_drew ?_))); (case side2 => exact (Kd.V_reads' HO203.out).2.1); rintro e w110 ⟨v205, rfl, ho0, hb⟩; refine ⟨_, rfl, ?_⟩; have n0_ := Aside0.mk (Cmp.vb hb HO_10.out); have n1_ := Aside0.mk (Cmp.vb hb HO_11.out); have n2_ := Aside0.mk (Cmp.vb hb HO203.out); have n3_ := Aside0.mk (Kd.V_lower (Kd.V_mono (ok' := fun k_ => True) ho0 (fun k_ hk_ => trivial)) (below_size (Cmp.bq HB.out))); have n4_ := Aside0.mk (below_step (Cmp.bq HB.out) hb); clear HO_10; clear HO_11; clear HO203; clear HB; have HO_10 := n0_; have HO_11 := n1_; have HO203 := n2_; have HO206 := n3_; have HB := n4_; clear n0_ n1_ n2_ n3_ n4_; (try clear hb); (try clear hb2); (try clear hk); (try clear hi); (try clear ho0)) | ((with_reducible refine gate_callee (f := 12) rfl ?_); refine goesL_ (some 80) rfl rfl Tryd.func12 (by kernel_rfl) rfl #[.slice A1 l1.length c1, .int .i64 a2] rfl Cmp.au ?_; (with_reducible refine (delta_Upto.calls _ _ l1 a2 t207 _ ?side1 ?side2 A51.out).mono ?_); (case side1 => exact Cmp.cb (Kd.C_below HR1.out HB.out)); (case side2 => exact HC1.out); rintro e w111 ⟨v208, rfl, ho0, hb⟩; refine ⟨_, rfl, ?_⟩; have n0_ := Aside0.mk (Cmp.vb hb HO_10.out); have n1_ := Aside0.mk (Cmp.vb hb HO_11.out); have n2_ := Aside0.mk (Cmp.vb hb HO203.out); have n3_ := Aside0.mk (Cmp.vb hb HO206.out); have n4_ := Aside0.mk (Kd.V_lower (Kd.V_mono (ok' := fun k_ => True) ho0 (fun k_ hk_ => trivial)) (below_size (Cmp.bq HB.out))); have n5_ := Aside0.mk (below_step (Cmp.bq HB.out) hb); clear HO_10; clear HO_11; clear HO203; clear HO206; clear HB; have HO_10 := n0_; have HO_11 := n1_; have HO203 := n2_; have HO206 := n3_; have HO209 := n4_; have HB := n5_; clear n0_ n1_ n2_ n3_ n4_ n5_; (try clear hb); (try clear hb2); (try clear hk); (try clear hi); (try clear ho0); obtain ⟨Ao112, co112, eo112⟩ := Kd.V_slice HO209.out; subst eo112) | ((with_reducible refine gate_callee (f := 16) rfl ?_); refine goesL_ (some 81) rfl rfl Tryd.func16 (by kernel_rfl) rfl #[.slice Ao24 t184.length co24, .slice Ao112 t207.length co112] rfl Cmp.au ?_; (with_reducible refine (delta_Add.calls _ _ t184 _ _ t207 t210 _ ?side1 ?side2 ?side3 ?side4 A52.out).mono ?_); (case side1 => repeat (first | exact (Kd.V_reads' HO_10.out).2.2 | (with_reducible refine Kd.C_alloc ?_ _) | (with_reducible refine Kd.C_drewN ?_ _) | (with_reducible refine Kd.C_drew ?_))); (case side2 => exact (Kd.V_reads' HO_10.out).2.1); (case side3 => repeat (first | exact (Kd.V_reads' HO209.out).2.2 | (with_reducible refine Kd.C_alloc ?_ _) | (with_reducible refine Kd.C_drewN ?_ _) | (with_reducible refine Kd.C_drew ?_))); (case side4 => exact (Kd.V_reads' HO209.out).2.1); rintro e w113 ⟨v211, rfl, ho0, hb⟩; refine ⟨_, rfl, ?_⟩; have n0_ := Aside0.mk (Cmp.vb hb HO_10.out); have n1_ := Aside0.mk (Cmp.vb hb HO_11.out); have n2_ := Aside0.mk (Cmp.vb hb HO203.out); have n3_ := Aside0.mk (Cmp.vb hb HO206.out); have n4_ := Aside0.mk (Cmp.vb hb HO209.out); have n5_ := Aside0.mk (Kd.V_lower (Kd.V_mono (ok' := fun k_ => True) ho0 (fun k_ hk_ => trivial)) (below_size (Cmp.bq HB.out))); have n6_ := Aside0.mk (below_step (Cmp.bq HB.out) hb); clear HO_10; clear HO_11; clear HO203; clear HO206; clear HO209; clear HB; have HO_10 := n0_; have HO_11 := n1_; have HO203 := n2_; have HO206 := n3_; have HO209 := n4_; have HO212 := n5_; have HB := n6_; clear n0_ n1_ n2_ n3_ n4_ n5_ n6_; (try clear hb); (try clear hb2); (try clear hk); (try clear hi); (try clear ho0); obtain ⟨Ao114, co114, eo114⟩ := Kd.V_slice HO206.out; subst eo114; obtain ⟨Ao115, co115, eo115⟩ := Kd.V_slice HO212.out; subst eo115) | ((with_reducible refine gate_callee (f := 15) rfl ?_); refine goesL_ (some 82) rfl rfl Tryd.func15 (by kernel_rfl) rfl #[.slice Ao114 t204.length co114, .slice Ao115 t210.length co115] rfl Cmp.au ?_; (with_reducible refine (errataref28_Equal.calls kj29 _ _ t204 _ _ t210 true _ ?side1 ?side2 ?side3 ?side4 A53.out).mono ?_); (case side1 => repeat (first | exact (Kd.V_reads' HO206.out).2.2 | (with_reducible refine Kd.C_alloc ?_ _) | (with_reducible refine Kd.C_drewN ?_ _) | (with_reducible refine Kd.C_drew ?_))); (case side2 => exact (Kd.V_reads' HO206.out).2.1); (case side3 => repeat (first | exact (Kd.V_reads' HO212.out).2.2 | (with_reducible refine Kd.C_alloc ?_ _) | (with_reducible refine Kd.C_drewN ?_ _) | (with_reducible refine Kd.C_drew ?_))); (case side4 => exact (Kd.V_reads' HO212.out).2.1); rintro e w116 ⟨rfl, hb⟩; refine ⟨_, rfl, ?_⟩; have n0_ := Aside0.mk (Cmp.vb hb HO_10.out); have n1_ := Aside0.mk (Cmp.vb hb HO_11.out); have n2_ := Aside0.mk (Cmp.vb hb HO203.out); have n3_ := Aside0.mk (Cmp.vb hb HO206.out); have n4_ := Aside0.mk (Cmp.vb hb HO209.out); have n5_ := Aside0.mk (Cmp.vb hb HO212.out); have n6_ := Aside0.mk (below_step (Cmp.bq HB.out) hb); clear HO_10; clear HO_11; clear HO203; clear HO206; clear HO209; clear HO212; clear HB; have HO_10 := n0_; have HO_11 := n1_; have HO203 := n2_; have HO206 := n3_; have HO209 := n4_; have HO212 := n5_; have HB := n6_; clear n0_ n1_ n2_ n3_ n4_ n5_ n6_; (try clear hb); (try clear hb2); (try clear hk); (try clear hi)) | (go_at_call 18; (with_reducible refine (delta_Sub.calls _ _ l0 _ _ l1 t214 _ ?side1 ?side2 ?side3 ?side4 A55.out).mono ?_); (case side1 => exact Cmp.cb (Kd.C_below HR0.out HB.out)); (case side2 => exact HC0.out); (case side3 => exact Cmp.cb (Kd.C_below HR1.out HB.out)); (case side4 => exact HC1.out); rintro e w117 ⟨v215, rfl, ho0, hb⟩; have n0_ := Aside0.mk (Cmp.vb hb HO_10.out); have n1_ := Aside0.mk (Cmp.vb hb HO_11.out); have n2_ := Aside0.mk (Cmp.vb hb HO203.out); have n3_ := Aside0.mk (Cmp.vb hb HO206.out); have n4_ := Aside0.mk (Cmp.vb hb HO209.out); have n5_ := Aside0.mk (Cmp.vb hb HO212.out); have n6_ := Aside0.mk (Kd.V_lower (Kd.V_mono (ok' := fun k_ => True) ho0 (fun k_ hk_ => trivial)) (below_size (Cmp.bq HB.out))); have n7_ := Aside0.mk (below_step (Cmp.bq HB.out) hb); clear HO_10; clear HO_11; clear HO203; clear HO206; clear HO209; clear HO212; clear HB; have HO_10 := n0_; have HO_11 := n1_; have HO203 := n2_; have HO206 := n3_; have HO209 := n4_; have HO212 := n5_; have HO216 := n6_; have HB := n7_; clear n0_ n1_ n2_ n3_ n4_ n5_ n6_ n7_; (try clear hb); (try clear hb2); (try clear hk); (try clear hi); (try clear ho0); obtain ⟨Ao118, co118, eo118⟩ := Kd.V_slice HO216.out; subst eo118) | (go_at_call 13; (with_reducible refine (delta_After.calls _ _ t214 a2 t217 _ ?side1 ?side2 A56.out).mono ?_); (case side1 => repeat (first | exact (Kd.V_reads' HO216.out).2.2 | (with_reducible refine Kd.C_alloc ?_ _) | (with_reducible refine Kd.C_drewN ?_ _) | (with_reducible refine Kd.C_drew ?_))); (case side2 => exact (Kd.V_reads' HO216.out).2.1); rintro e w119 ⟨v218, rfl, ho0, hb⟩; have n0_ := Aside0.mk (Cmp.vb hb HO_10.out); have n1_ := Aside0.mk (Cmp.vb hb HO_11.out); have n2_ := Aside0.mk (Cmp.vb hb HO203.out); have n3_ := Aside0.mk (Cmp.vb hb HO206.out); have n4_ := Aside0.mk (Cmp.vb hb HO209.out); have n5_ := Aside0.mk (Cmp.vb hb HO212.out); have n6_ := Aside0.mk (Cmp.vb hb HO216.out); have n7_ := Aside0.mk (Kd.V_lower (Kd.V_mono (ok' := fun k_ => True) ho0 (fun k_ hk_ => trivial)) (below_size (Cmp.bq HB.out))); have n8_ := Aside0.mk (below_step (Cmp.bq HB.out) hb); clear HO_10; clear HO_11; clear HO203; clear HO206; clear HO209; clear HO212; clear HO216; clear HB; have HO_10 := n0_; have HO_11 := n1_; have HO203 := n2_; have HO206 := n3_; have HO209 := n4_; have HO212 := n5_; have HO216 := n6_; have HO219 := n7_; have HB := n8_; clear n0_ n1_ n2_ n3_ n4_ n5_ n6_ n7_ n8_; (try clear hb); (try clear hb2); (try clear hk); (try clear hi); (try clear ho0)) | (go_at_call 13; (with_reducible refine (delta_After.calls _ _ l1 a2 t220 _ ?side1 ?side2 A57.out).mono ?_); (case side1 => exact Cmp.cb (Kd.C_below HR1.out HB.out)); (case side2 => exact HC1.out); rintro e w120 ⟨v221, rfl, ho0, hb⟩; have n0_ := Aside0.mk (Cmp.vb hb HO_10.out); have n1_ := Aside0.mk (Cmp.vb hb HO_11.out); have n2_ := Aside0.mk (Cmp.vb hb HO203.out); have n3_ := Aside0.mk (Cmp.vb hb HO206.out); have n4_ := Aside0.mk (Cmp.vb hb HO209.out); have n5_ := Aside0.mk (Cmp.vb hb HO212.out); have n6_ := Aside0.mk (Cmp.vb hb HO216.out); have n7_ := Aside0.mk (Cmp.vb hb HO219.out); have n8_ := Aside0.mk (Kd.V_lower (Kd.V_mono (ok' := fun k_ => True) ho0 (fun k_ hk_ => trivial)) (below_size (Cmp.bq HB.out))); have n9_ := Aside0.mk (below_step (Cmp.bq HB.out) hb); clear HO_10; clear HO_11; clear HO203; clear HO206; clear HO209; clear HO212; clear HO216; clear HO219; clear HB; have HO_10 := n0_; have HO_11 := n1_; have HO203 := n2_; have HO206 := n3_; have HO209 := n4_; have HO212 := n5_; have HO216 := n6_; have HO219 := n7_; have HO222 := n8_; have HB := n9_; clear n0_ n1_ n2_ n3_ n4_ n5_ n6_ n7_ n8_ n9_; (try clear hb); (try clear hb2); (try clear hk); (try clear hi); (try clear ho0); obtain ⟨Ao121, co121, eo121⟩ := Kd.V_slice HO222.out; subst eo121) | (go_at_call 18; (with_reducible refine (delta_Sub.calls _ _ t187 _ _ t220 t223 _ ?side1 ?side2 ?side3 ?side4 A58.out).mono ?_); (case side1 => repeat (first | exact (Kd.V_reads' HO_11.out).2.2 | (with_reducible refine Kd.C_alloc ?_ _) | (with_reducible refine Kd.C_drewN ?_ _) | (with_reducible refine Kd.C_drew ?_))); (case side2 => exact (Kd.V_reads' HO_11.out).2.1); (case side3 => repeat (first | exact (Kd.V_reads' HO222.out).2.2 | (with_reducible refine Kd.C_alloc ?_ _) | (with_reducible refine Kd.C_drewN ?_ _) | (with_reducible refine Kd.C_drew ?_))); (case side4 => exact (Kd.V_reads' HO222.out).2.1); rintro e w122 ⟨v224, rfl, ho0, hb⟩; have n0_ := Aside0.mk (Cmp.vb hb HO_10.out); have n1_ := Aside0.mk (Cmp.vb hb HO_11.out); have n2_ := Aside0.mk (Cmp.vb hb HO203.out); have n3_ := Aside0.mk (Cmp.vb hb HO206.out); have n4_ := Aside0.mk (Cmp.vb hb HO209.out); have n5_ := Aside0.mk (Cmp.vb hb HO212.out); have n6_ := Aside0.mk (Cmp.vb hb HO216.out); have n7_ := Aside0.mk (Cmp.vb hb HO219.out); have n8_ := Aside0.mk (Cmp.vb hb HO222.out); have n9_ := Aside0.mk (Kd.V_lower (Kd.V_mono (ok' := fun k_ => True) ho0 (fun k_ hk_ => trivial)) (below_size (Cmp.bq HB.out))); have n10_ := Aside0.mk (below_step (Cmp.bq HB.out) hb); clear HO_10; clear HO_11; clear HO203; clear HO206; clear HO209; clear HO212; clear HO216; clear HO219; clear HO222; clear HB; have HO_10 := n0_; have HO_11 := n1_; have HO203 := n2_; have HO206 := n3_; have HO209 := n4_; have HO212 := n5_; have HO216 := n6_; have HO219 := n7_; have HO222 := n8_; have HO225 := n9_; have HB := n10_; clear n0_ n1_ n2_ n3_ n4_ n5_ n6_ n7_ n8_ n9_ n10_; (try clear hb); (try clear hb2); (try clear hk); (try clear hi); (try clear ho0); obtain ⟨Ao123, co123, eo123⟩ := Kd.V_slice HO219.out; subst eo123; obtain ⟨Ao124, co124, eo124⟩ := Kd.V_slice HO225.out; subst eo124) | (go_at_call 15; (with_reducible refine (errataref28_Equal.calls kj29 _ _ t217 _ _ t223 t226 _ ?side1 ?side2 ?side3 ?side4 A59.out).mono ?_); (case side1 => repeat (first | exact (Kd.V_reads' HO219.out).2.2 | (with_reducible refine Kd.C_alloc ?_ _) | (with_reducible refine Kd.C_drewN ?_ _) | (with_reducible refine Kd.C_drew ?_))); (case side2 => exact (Kd.V_reads' HO219.out).2.1); (case side3 => repeat (first | exact (Kd.V_reads' HO225.out).2.2 | (with_reducible refine Kd.C_alloc ?_ _) | (with_reducible refine Kd.C_drewN ?_ _) | (with_reducible refine Kd.C_drew ?_))); (case side4 => exact (Kd.V_reads' HO225.out).2.1); rintro e w125 ⟨rfl, hb⟩; have n0_ := Aside0.mk (Cmp.vb hb HO_10.out); have n1_ := Aside0.mk (Cmp.vb hb HO_11.out); have n2_ := Aside0.mk (Cmp.vb hb HO203.out); have n3_ := Aside0.mk (Cmp.vb hb HO206.out); have n4_ := Aside0.mk (Cmp.vb hb HO209.out); have n5_ := Aside0.mk (Cmp.vb hb HO212.out); have n6_ := Aside0.mk (Cmp.vb hb HO216.out); have n7_ := Aside0.mk (Cmp.vb hb HO219.out); have n8_ := Aside0.mk (Cmp.vb hb HO222.out); have n9_ := Aside0.mk (Cmp.vb hb HO225.out); have n10_ := Aside0.mk (below_step (Cmp.bq HB.out) hb); clear HO_10; clear HO_11; clear HO203; clear HO206; clear HO209; clear HO212; clear HO216; clear HO219; clear HO222; clear HO225; clear HB; have HO_10 := n0_; have HO_11 := n1_; have HO203 := n2_; have HO206 := n3_; have HO209 := n4_; have HO212 := n5_; have HO216 := n6_; have HO219 := n7_; have HO222 := n8_; have HO225 := n9_; have HB := n10_; clear n0_ n1_ n2_ n3_ n4_ n5_ n6_ n7_ n8_ n9_ n10_; (try clear hb); (try clear hb2); (try clear hk); (try clear hi)))
                              go_ret
                              exact ⟨by first | rfl | (simp [errW_none, errW_some] <;> rfl) | (simp [*, errW_none, errW_some] <;> rfl), by repeat (first | (with_reducible first | exact HB.out | apply below_alloc | apply pw_below_drewN | apply below_drew1) | exact HB.out)⟩
                          · replace c60 := Bool.eq_false_iff.mpr c60
                            subst c60
                            have H1 : (some false) = some r := by rw [if_neg (show ¬ (false = true) by decide)] at H; exact H
                            clear H
                            have H := H1
                            clear H1
                            obtain rfl := Option.some.inj H
                            go_wp2_with (first | ((with_reducible refine gate_callee (f := 16) rfl ?_); refine goesL_ (some 74) rfl rfl Tryd.func16 (by kernel_rfl) rfl #[.slice A0 l0.length c0, .slice A1 l1.length c1] rfl Cmp.au ?_; (with_reducible refine (delta_Add.calls _ _ l0 _ _ l1 t201 _ ?side1 ?side2 ?side3 ?side4 A49.out).mono ?_); (case side1 => exact Cmp.cb (Kd.C_below HR0.out HB.out)); (case side2 => exact HC0.out); (case side3 => exact Cmp.cb (Kd.C_below HR1.out HB.out)); (case side4 => exact HC1.out); rintro e w126 ⟨v202, rfl, ho0, hb⟩; refine ⟨_, rfl, ?_⟩; have n0_ := Aside0.mk (Cmp.vb hb HO_10.out); have n1_ := Aside0.mk (Cmp.vb hb HO_11.out); have n2_ := Aside0.mk (Kd.V_lower (Kd.V_mono (ok' := fun k_ => True) ho0 (fun k_ hk_ => trivial)) (below_size (Cmp.bq HB.out))); have n3_ := Aside0.mk (below_step (Cmp.bq HB.out) hb); clear HO_10; clear HO_11; clear HB; have HO_10 := n0_; have HO_11 := n1_; have HO203 := n2_; have HB := n3_; clear n0_ n1_ n2_ n3_; (try clear hb); (try clear hb2); (try clear hk); (try clear hi); (try clear ho0); obtain ⟨Ao127, co127, eo127⟩ := Kd.V_slice HO203.out; subst eo127) | ((with_reducible refine gate_callee (f := 12) rfl ?_); refine goesL_ (some 76) rfl rfl Tryd.func12 (by kernel_rfl) rfl #[.slice Ao127 t201.length co127, .int .i64 a2] rfl Cmp.au ?_; (with_reducible refine (delta_Upto.calls _ _ t201 a2 t204 _ ?side1 ?side2 A50.out).mono ?_); (case side1 => repeat (first | exact (Kd.V_reads' HO203.out).2.2 | (with_reducible refine Kd.C_alloc ?_ _) | (with_reducible refine Kd.C_drewN ?_ _) | (with_reducible refine Kd.C_drew ?_))); (case side2 => exact (Kd.V_reads' HO203.out).2.1); rintro e w128 ⟨v205, rfl, ho0, hb⟩; refine ⟨_, rfl, ?_⟩; have n0_ := Aside0.mk (Cmp.vb hb HO_10.out); have n1_ := Aside0.mk (Cmp.vb hb HO_11.out); have n2_ := Aside0.mk (Cmp.vb hb HO203.out); have n3_ := Aside0.mk (Kd.V_lower (Kd.V_mono (ok' := fun k_ => True) ho0 (fun k_ hk_ => trivial)) (below_size (Cmp.bq HB.out))); have n4_ := Aside0.mk (below_step (Cmp.bq HB.out) hb); clear HO_10; clear HO_11; clear HO203; clear HB; have HO_10 := n0_; have HO_11 := n1_; have HO203 := n2_; have HO206 := n3_; have HB := n4_; clear n0_ n1_ n2_ n3_ n4_; (try clear hb); (try clear hb2); (try clear hk); (try clear hi); (try clear ho0)) | ((with_reducible refine gate_callee (f := 12) rfl ?_); refine goesL_ (some 80) rfl rfl Tryd.func12 (by kernel_rfl) rfl #[.slice A1 l1.length c1, .int .i64 a2] rfl Cmp.au ?_; (with_reducible refine (delta_Upto.calls _ _ l1 a2 t207 _ ?side1 ?side2 A51.out).mono ?_); (case side1 => exact Cmp.cb (Kd.C_below HR1.out HB.out)); (case side2 => exact HC1.out); rintro e w129 ⟨v208, rfl, ho0, hb⟩; refine ⟨_, rfl, ?_⟩; have n0_ := Aside0.mk (Cmp.vb hb HO_10.out); have n1_ := Aside0.mk (Cmp.vb hb HO_11.out); have n2_ := Aside0.mk (Cmp.vb hb HO203.out); have n3_ := Aside0.mk (Cmp.vb hb HO206.out); have n4_ := Aside0.mk (Kd.V_lower (Kd.V_mono (ok' := fun k_ => True) ho0 (fun k_ hk_ => trivial)) (below_size (Cmp.bq HB.out))); have n5_ := Aside0.mk (below_step (Cmp.bq HB.out) hb); clear HO_10; clear HO_11; clear HO203; clear HO206; clear HB; have HO_10 := n0_; have HO_11 := n1_; have HO203 := n2_; have HO206 := n3_; have HO209 := n4_; have HB := n5_; clear n0_ n1_ n2_ n3_ n4_ n5_; (try clear hb); (try clear hb2); (try clear hk); (try clear hi); (try clear ho0); obtain ⟨Ao130, co130, eo130⟩ := Kd.V_slice HO209.out; subst eo130) | ((with_reducible refine gate_callee (f := 16) rfl ?_); refine goesL_ (some 81) rfl rfl Tryd.func16 (by kernel_rfl) rfl #[.slice Ao24 t184.length co24, .slice Ao130 t207.length co130] rfl Cmp.au ?_; (with_reducible refine (delta_Add.calls _ _ t184 _ _ t207 t210 _ ?side1 ?side2 ?side3 ?side4 A52.out).mono ?_); (case side1 => repeat (first | exact (Kd.V_reads' HO_10.out).2.2 | (with_reducible refine Kd.C_alloc ?_ _) | (with_reducible refine Kd.C_drewN ?_ _) | (with_reducible refine Kd.C_drew ?_))); (case side2 => exact (Kd.V_reads' HO_10.out).2.1); (case side3 => repeat (first | exact (Kd.V_reads' HO209.out).2.2 | (with_reducible refine Kd.C_alloc ?_ _) | (with_reducible refine Kd.C_drewN ?_ _) | (with_reducible refine Kd.C_drew ?_))); (case side4 => exact (Kd.V_reads' HO209.out).2.1); rintro e w131 ⟨v211, rfl, ho0, hb⟩; refine ⟨_, rfl, ?_⟩; have n0_ := Aside0.mk (Cmp.vb hb HO_10.out); have n1_ := Aside0.mk (Cmp.vb hb HO_11.out); have n2_ := Aside0.mk (Cmp.vb hb HO203.out); have n3_ := Aside0.mk (Cmp.vb hb HO206.out); have n4_ := Aside0.mk (Cmp.vb hb HO209.out); have n5_ := Aside0.mk (Kd.V_lower (Kd.V_mono (ok' := fun k_ => True) ho0 (fun k_ hk_ => trivial)) (below_size (Cmp.bq HB.out))); have n6_ := Aside0.mk (below_step (Cmp.bq HB.out) hb); clear HO_10; clear HO_11; clear HO203; clear HO206; clear HO209; clear HB; have HO_10 := n0_; have HO_11 := n1_; have HO203 := n2_; have HO206 := n3_; have HO209 := n4_; have HO212 := n5_; have HB := n6_; clear n0_ n1_ n2_ n3_ n4_ n5_ n6_; (try clear hb); (try clear hb2); (try clear hk); (try clear hi); (try clear ho0); obtain ⟨Ao132, co132, eo132⟩ := Kd.V_slice HO206.out; subst eo132; obtain ⟨Ao133, co133, eo133⟩ := Kd.V_slice HO212.out; subst eo133) | ((with_reducible refine gate_callee (f := 15) rfl ?_); refine goesL_ (some 82) rfl rfl Tryd.func15 (by kernel_rfl) rfl #[.slice Ao132 t204.length co132, .slice Ao133 t210.length co133] rfl Cmp.au ?_; (with_reducible refine (errataref28_Equal.calls kj29 _ _ t204 _ _ t210 true _ ?side1 ?side2 ?side3 ?side4 A53.out).mono ?_); (case side1 => repeat (first | exact (Kd.V_reads' HO206.out).2.2 | (with_reducible refine Kd.C_alloc ?_ _) | (with_reducible refine Kd.C_drewN ?_ _) | (with_reducible refine Kd.C_drew ?_))); (case side2 => exact (Kd.V_reads' HO206.out).2.1); (case side3 => repeat (first | exact (Kd.V_reads' HO212.out).2.2 | (with_reducible refine Kd.C_alloc ?_ _) | (with_reducible refine Kd.C_drewN ?_ _) | (with_reducible refine Kd.C_drew ?_))); (case side4 => exact (Kd.V_reads' HO212.out).2.1); rintro e w134 ⟨rfl, hb⟩; refine ⟨_, rfl, ?_⟩; have n0_ := Aside0.mk (Cmp.vb hb HO_10.out); have n1_ := Aside0.mk (Cmp.vb hb HO_11.out); have n2_ := Aside0.mk (Cmp.vb hb HO203.out); have n3_ := Aside0.mk (Cmp.vb hb HO206.out); have n4_ := Aside0.mk (Cmp.vb hb HO209.out); have n5_ := Aside0.mk (Cmp.vb hb HO212.out); have n6_ := Aside0.mk (below_step (Cmp.bq HB.out) hb); clear HO_10; clear HO_11; clear HO203; clear HO206; clear HO209; clear HO212; clear HB; have HO_10 := n0_; have HO_11 := n1_; have HO203 := n2_; have HO206 := n3_; have HO209 := n4_; have HO212 := n5_; have HB := n6_; clear n0_ n1_ n2_ n3_ n4_ n5_ n6_; (try clear hb); (try clear hb2); (try clear hk); (try clear hi)) | (go_at_call 18; (with_reducible refine (delta_Sub.calls _ _ l0 _ _ l1 t214 _ ?side1 ?side2 ?side3 ?side4 A55.out).mono ?_); (case side1 => exact Cmp.cb (Kd.C_below HR0.out HB.out)); (case side2 => exact HC0.out); (case side3 => exact Cmp.cb (Kd.C_below HR1.out HB.out)); (case side4 => exact HC1.out); rintro e w135 ⟨v215, rfl, ho0, hb⟩; have n0_ := Aside0.mk (Cmp.vb hb HO_10.out); have n1_ := Aside0.mk (Cmp.vb hb HO_11.out); have n2_ := Aside0.mk (Cmp.vb hb HO203.out); have n3_ := Aside0.mk (Cmp.vb hb HO206.out); have n4_ := Aside0.mk (Cmp.vb hb HO209.out); have n5_ := Aside0.mk (Cmp.vb hb HO212.out); have n6_ := Aside0.mk (Kd.V_lower (Kd.V_mono (ok' := fun k_ => True) ho0 (fun k_ hk_ => trivial)) (below_size (Cmp.bq HB.out))); have n7_ := Aside0.mk (below_step (Cmp.bq HB.out) hb); clear HO_10; clear HO_11; clear HO203; clear HO206; clear HO209; clear HO212; clear HB; have HO_10 := n0_; have HO_11 := n1_; have HO203 := n2_; have HO206 := n3_; have HO209 := n4_; have HO212 := n5_; have HO216 := n6_; have HB := n7_; clear n0_ n1_ n2_ n3_ n4_ n5_ n6_ n7_; (try clear hb); (try clear hb2); (try clear hk); (try clear hi); (try clear ho0); obtain ⟨Ao136, co136, eo136⟩ := Kd.V_slice HO216.out; subst eo136) | (go_at_call 13; (with_reducible refine (delta_After.calls _ _ t214 a2 t217 _ ?side1 ?side2 A56.out).mono ?_); (case side1 => repeat (first | exact (Kd.V_reads' HO216.out).2.2 | (with_reducible refine Kd.C_alloc ?_ _) | (with_reducible refine Kd.C_drewN ?_ _) | (with_reducible refine Kd.C_drew ?_))); (case side2 => exact (Kd.V_reads' HO216.out).2.1); rintro e w137 ⟨v218, rfl, ho0, hb⟩; have n0_ := Aside0.mk (Cmp.vb hb HO_10.out); have n1_ := Aside0.mk (Cmp.vb hb HO_11.out); have n2_ := Aside0.mk (Cmp.vb hb HO203.out); have n3_ := Aside0.mk (Cmp.vb hb HO206.out); have n4_ := Aside0.mk (Cmp.vb hb HO209.out); have n5_ := Aside0.mk (Cmp.vb hb HO212.out); have n6_ := Aside0.mk (Cmp.vb hb HO216.out); have n7_ := Aside0.mk (Kd.V_lower (Kd.V_mono (ok' := fun k_ => True) ho0 (fun k_ hk_ => trivial)) (below_size (Cmp.bq HB.out))); have n8_ := Aside0.mk (below_step (Cmp.bq HB.out) hb); clear HO_10; clear HO_11; clear HO203; clear HO206; clear HO209; clear HO212; clear HO216; clear HB; have HO_10 := n0_; have HO_11 := n1_; have HO203 := n2_; have HO206 := n3_; have HO209 := n4_; have HO212 := n5_; have HO216 := n6_; have HO219 := n7_; have HB := n8_; clear n0_ n1_ n2_ n3_ n4_ n5_ n6_ n7_ n8_; (try clear hb); (try clear hb2); (try clear hk); (try clear hi); (try clear ho0)) | (go_at_call 13; (with_reducible refine (delta_After.calls _ _ l1 a2 t220 _ ?side1 ?side2 A57.out).mono ?_); (case side1 => exact Cmp.cb (Kd.C_below HR1.out HB.out)); (case side2 => exact HC1.out); rintro e w138 ⟨v221, rfl, ho0, hb⟩; have n0_ := Aside0.mk (Cmp.vb hb HO_10.out); have n1_ := Aside0.mk (Cmp.vb hb HO_11.out); have n2_ := Aside0.mk (Cmp.vb hb HO203.out); have n3_ := Aside0.mk (Cmp.vb hb HO206.out); have n4_ := Aside0.mk (Cmp.vb hb HO209.out); have n5_ := Aside0.mk (Cmp.vb hb HO212.out); have n6_ := Aside0.mk (Cmp.vb hb HO216.out); have n7_ := Aside0.mk (Cmp.vb hb HO219.out); have n8_ := Aside0.mk (Kd.V_lower (Kd.V_mono (ok' := fun k_ => True) ho0 (fun k_ hk_ => trivial)) (below_size (Cmp.bq HB.out))); have n9_ := Aside0.mk (below_step (Cmp.bq HB.out) hb); clear HO_10; clear HO_11; clear HO203; clear HO206; clear HO209; clear HO212; clear HO216; clear HO219; clear HB; have HO_10 := n0_; have HO_11 := n1_; have HO203 := n2_; have HO206 := n3_; have HO209 := n4_; have HO212 := n5_; have HO216 := n6_; have HO219 := n7_; have HO222 := n8_; have HB := n9_; clear n0_ n1_ n2_ n3_ n4_ n5_ n6_ n7_ n8_ n9_; (try clear hb); (try clear hb2); (try clear hk); (try clear hi); (try clear ho0); obtain ⟨Ao139, co139, eo139⟩ := Kd.V_slice HO222.out; subst eo139) | (go_at_call 18; (with_reducible refine (delta_Sub.calls _ _ t187 _ _ t220 t223 _ ?side1 ?side2 ?side3 ?side4 A58.out).mono ?_); (case side1 => repeat (first | exact (Kd.V_reads' HO_11.out).2.2 | (with_reducible refine Kd.C_alloc ?_ _) | (with_reducible refine Kd.C_drewN ?_ _) | (with_reducible refine Kd.C_drew ?_))); (case side2 => exact (Kd.V_reads' HO_11.out).2.1); (case side3 => repeat (first | exact (Kd.V_reads' HO222.out).2.2 | (with_reducible refine Kd.C_alloc ?_ _) | (with_reducible refine Kd.C_drewN ?_ _) | (with_reducible refine Kd.C_drew ?_))); (case side4 => exact (Kd.V_reads' HO222.out).2.1); rintro e w140 ⟨v224, rfl, ho0, hb⟩; have n0_ := Aside0.mk (Cmp.vb hb HO_10.out); have n1_ := Aside0.mk (Cmp.vb hb HO_11.out); have n2_ := Aside0.mk (Cmp.vb hb HO203.out); have n3_ := Aside0.mk (Cmp.vb hb HO206.out); have n4_ := Aside0.mk (Cmp.vb hb HO209.out); have n5_ := Aside0.mk (Cmp.vb hb HO212.out); have n6_ := Aside0.mk (Cmp.vb hb HO216.out); have n7_ := Aside0.mk (Cmp.vb hb HO219.out); have n8_ := Aside0.mk (Cmp.vb hb HO222.out); have n9_ := Aside0.mk (Kd.V_lower (Kd.V_mono (ok' := fun k_ => True) ho0 (fun k_ hk_ => trivial)) (below_size (Cmp.bq HB.out))); have n10_ := Aside0.mk (below_step (Cmp.bq HB.out) hb); clear HO_10; clear HO_11; clear HO203; clear HO206; clear HO209; clear HO212; clear HO216; clear HO219; clear HO222; clear HB; have HO_10 := n0_; have HO_11 := n1_; have HO203 := n2_; have HO206 := n3_; have HO209 := n4_; have HO212 := n5_; have HO216 := n6_; have HO219 := n7_; have HO222 := n8_; have HO225 := n9_; have HB := n10_; clear n0_ n1_ n2_ n3_ n4_ n5_ n6_ n7_ n8_ n9_ n10_; (try clear hb); (try clear hb2); (try clear hk); (try clear hi); (try clear ho0); obtain ⟨Ao141, co141, eo141⟩ := Kd.V_slice HO219.out; subst eo141; obtain ⟨Ao142, co142, eo142⟩ := Kd.V_slice HO225.out; subst eo142) | (go_at_call 15; (with_reducible refine (errataref28_Equal.calls kj29 _ _ t217 _ _ t223 t226 _ ?side1 ?side2 ?side3 ?side4 A59.out).mono ?_); (case side1 => repeat (first | exact (Kd.V_reads' HO219.out).2.2 | (with_reducible refine Kd.C_alloc ?_ _) | (with_reducible refine Kd.C_drewN ?_ _) | (with_reducible refine Kd.C_drew ?_))); (case side2 => exact (Kd.V_reads' HO219.out).2.1); (case side3 => repeat (first | exact (Kd.V_reads' HO225.out).2.2 | (with_reducible refine Kd.C_alloc ?_ _) | (with_reducible refine Kd.C_drewN ?_ _) | (with_reducible refine Kd.C_drew ?_))); (case side4 => exact (Kd.V_reads' HO225.out).2.1); rintro e w143 ⟨rfl, hb⟩; have n0_ := Aside0.mk (Cmp.vb hb HO_10.out); have n1_ := Aside0.mk (Cmp.vb hb HO_11.out); have n2_ := Aside0.mk (Cmp.vb hb HO203.out); have n3_ := Aside0.mk (Cmp.vb hb HO206.out); have n4_ := Aside0.mk (Cmp.vb hb HO209.out); have n5_ := Aside0.mk (Cmp.vb hb HO212.out); have n6_ := Aside0.mk (Cmp.vb hb HO216.out); have n7_ := Aside0.mk (Cmp.vb hb HO219.out); have n8_ := Aside0.mk (Cmp.vb hb HO222.out); have n9_ := Aside0.mk (Cmp.vb hb HO225.out); have n10_ := Aside0.mk (below_step (Cmp.bq HB.out) hb); clear HO_10; clear HO_11; clear HO203; clear HO206; clear HO209; clear HO212; clear HO216; clear HO219; clear HO222; clear HO225; clear HB; have HO_10 := n0_; have HO_11 := n1_; have HO203 := n2_; have HO206 := n3_; have HO209 := n4_; have HO212 := n5_; have HO216 := n6_; have HO219 := n7_; have HO222 := n8_; have HO225 := n9_; have HB := n10_; clear n0_ n1_ n2_ n3_ n4_ n5_ n6_ n7_ n8_ n9_ n10_; (try clear hb); (try clear hb2); (try clear hk); (try clear hi)))
                            go_ret
                            exact ⟨by first | rfl | (simp [errW_none, errW_some] <;> rfl) | (simp [*, errW_none, errW_some] <;> rfl), by repeat (first | (with_reducible first | exact HB.out | apply below_alloc | apply pw_below_drewN | apply below_drew1) | exact HB.out)⟩
                        · replace c54 := Bool.eq_false_iff.mpr c54
                          subst c54
                          have H1 : (if t181 = true then (if x14_29 = true then (some false) else (some false)) else (some false)) = some r := by rw [if_neg (show ¬ (false = true) by decide)] at H; exact H
                          clear H
                          have H := H1
                          clear H1
                          by_cases c144 : t181 = true
                          · subst c144
                            have H1 : (if x14_29 = true then (some false) else (some false)) = some r := by rw [if_pos rfl] at H; exact H
                            clear H
                            have H := H1
                            clear H1
                            by_cases c145 : x14_29 = true
                            · subst c145
                              have H1 : (some false) = some r := by rw [if_pos rfl] at H; exact H
                              clear H
                              have H := H1
                              clear H1
                              obtain rfl := Option.some.inj H
                              go_wp2_with (first | ((with_reducible refine gate_callee (f := 16) rfl ?_); refine goesL_ (some 74) rfl rfl Tryd.func16 (by kernel_rfl) rfl #[.slice A0 l0.length c0, .slice A1 l1.length c1] rfl Cmp.au ?_; (with_reducible refine (delta_Add.calls _ _ l0 _ _ l1 t201 _ ?side1 ?side2 ?side3 ?side4 A49.out).mono ?_); (case side1 => exact Cmp.cb (Kd.C_below HR0.out HB.out)); (case side2 => exact HC0.out); (case side3 => exact Cmp.cb (Kd.C_below HR1.out HB.out)); (case side4 => exact HC1.out); rintro e w146 ⟨v202, rfl, ho0, hb⟩; refine ⟨_, rfl, ?_⟩; have n0_ := Aside0.mk (Cmp.vb hb HO_10.out); have n1_ := Aside0.mk (Cmp.vb hb HO_11.out); have n2_ := Aside0.mk (Kd.V_lower (Kd.V_mono (ok' := fun k_ => True) ho0 (fun k_ hk_ => trivial)) (below_size (Cmp.bq HB.out))); have n3_ := Aside0.mk (below_step (Cmp.bq HB.out) hb); clear HO_10; clear HO_11; clear HB; have HO_10 := n0_; have HO_11 := n1_; have HO203 := n2_; have HB := n3_; clear n0_ n1_ n2_ n3_; (try clear hb); (try clear hb2); (try clear hk); (try clear hi); (try clear ho0); obtain ⟨Ao147, co147, eo147⟩ := Kd.V_slice HO203.out; subst eo147) | ((with_reducible refine gate_callee (f := 12) rfl ?_); refine goesL_ (some 76) rfl rfl Tryd.func12 (by kernel_rfl) rfl #[.slice Ao147 t201.length co147, .int .i64 a2] rfl Cmp.au ?_; (with_reducible refine (delta_Upto.calls _ _ t201 a2 t204 _ ?side1 ?side2 A50.out).mono ?_); (case side1 => repeat (first | exact (Kd.V_reads' HO203.out).2.2 | (with_reducible refine Kd.C_alloc ?_ _) | (with_reducible refine Kd.C_drewN ?_ _) | (with_reducible refine Kd.C_drew ?_))); (case side2 => exact (Kd.V_reads' HO203.out).2.1); rintro e w148 ⟨v205, rfl, ho0, hb⟩; refine ⟨_, rfl, ?_⟩; have n0_ := Aside0.mk (Cmp.vb hb HO_10.out); have n1_ := Aside0.mk (Cmp.vb hb HO_11.out); have n2_ := Aside0.mk (Cmp.vb hb HO203.out); have n3_ := Aside0.mk (Kd.V_lower (Kd.V_mono (ok' := fun k_ => True) ho0 (fun k_ hk_ => trivial)) (below_size (Cmp.bq HB.out))); have n4_ := Aside0.mk (below_step (Cmp.bq HB.out) hb); clear HO_10; clear HO_11; clear HO203; clear HB; have HO_10 := n0_; have HO_11 := n1_; have HO203 := n2_; have HO206 := n3_; have HB := n4_; clear n0_ n1_ n2_ n3_ n4_; (try clear hb); (try clear hb2); (try clear hk); (try clear hi); (try clear ho0)) | ((with_reducible refine gate_callee (f := 12) rfl ?_); refine goesL_ (some 80) rfl rfl Tryd.func12 (by kernel_rfl) rfl #[.slice A1 l1.length c1, .int .i64 a2] rfl Cmp.au ?_; (with_reducible refine (delta_Upto.calls _ _ l1 a2 t207 _ ?side1 ?side2 A51.out).mono ?_); (case side1 => exact Cmp.cb (Kd.C_below HR1.out HB.out)); (case side2 => exact HC1.out); rintro e w149 ⟨v208, rfl, ho0, hb⟩; refine ⟨_, rfl, ?_⟩; have n0_ := Aside0.mk (Cmp.vb hb HO_10.out); have n1_ := Aside0.mk (Cmp.vb hb HO_11.out); have n2_ := Aside0.mk (Cmp.vb hb HO203.out); have n3_ := Aside0.mk (Cmp.vb hb HO206.out); have n4_ := Aside0.mk (Kd.V_lower (Kd.V_mono (ok' := fun k_ => True) ho0 (fun k_ hk_ => trivial)) (below_size (Cmp.bq HB.out))); have n5_ := Aside0.mk (below_step (Cmp.bq HB.out) hb); clear HO_10; clear HO_11; clear HO203; clear HO206; clear HB; have HO_10 := n0_; have HO_11 := n1_; have HO203 := n2_; have HO206 := n3_; have HO209 := n4_; have HB := n5_; clear n0_ n1_ n2_ n3_ n4_ n5_; (try clear hb); (try clear hb2); (try clear hk); (try clear hi); (try clear ho0); obtain ⟨Ao150, co150, eo150⟩ := Kd.V_slice HO209.out; subst eo150) | ((with_reducible refine gate_callee (f := 16) rfl ?_); refine goesL_ (some 81) rfl rfl Tryd.func16 (by kernel_rfl) rfl #[.slice Ao24 t184.length co24, .slice Ao150 t207.length co150] rfl Cmp.au ?_; (with_reducible refine (delta_Add.calls _ _ t184 _ _ t207 t210 _ ?side1 ?side2 ?side3 ?side4 A52.out).mono ?_); (case side1 => repeat (first | exact (Kd.V_reads' HO_10.out).2.2 | (with_reducible refine Kd.C_alloc ?_ _) | (with_reducible refine Kd.C_drewN ?_ _) | (with_reducible refine Kd.C_drew ?_))); (case side2 => exact (Kd.V_reads' HO_10.out).2.1); (case side3 => repeat (first | exact (Kd.V_reads' HO209.out).2.2 | (with_reducible refine Kd.C_alloc ?_ _) | (with_reducible refine Kd.C_drewN ?_ _) | (with_reducible refine Kd.C_drew ?_))); (case side4 => exact (Kd.V_reads' HO209.out).2.1); rintro e w151 ⟨v211, rfl, ho0, hb⟩; refine ⟨_, rfl, ?_⟩; have n0_ := Aside0.mk (Cmp.vb hb HO_10.out); have n1_ := Aside0.mk (Cmp.vb hb HO_11.out); have n2_ := Aside0.mk (Cmp.vb hb HO203.out); have n3_ := Aside0.mk (Cmp.vb hb HO206.out); have n4_ := Aside0.mk (Cmp.vb hb HO209.out); have n5_ := Aside0.mk (Kd.V_lower (Kd.V_mono (ok' := fun k_ => True) ho0 (fun k_ hk_ => trivial)) (below_size (Cmp.bq HB.out))); have n6_ := Aside0.mk (below_step (Cmp.bq HB.out) hb); clear HO_10; clear HO_11; clear HO203; clear HO206; clear HO209; clear HB; have HO_10 := n0_; have HO_11 := n1_; have HO203 := n2_; have HO206 := n3_; have HO209 := n4_; have HO212 := n5_; have HB := n6_; clear n0_ n1_ n2_ n3_ n4_ n5_ n6_; (try clear hb); (try clear hb2); (try clear hk); (try clear hi); (try clear ho0); obtain ⟨Ao152, co152, eo152⟩ := Kd.V_slice HO206.out; subst eo152; obtain ⟨Ao153, co153, eo153⟩ := Kd.V_slice HO212.out; subst eo153) | ((with_reducible refine gate_callee (f := 15) rfl ?_); refine goesL_ (some 82) rfl rfl Tryd.func15 (by kernel_rfl) rfl #[.slice Ao152 t204.length co152, .slice Ao153 t210.length co153] rfl Cmp.au ?_; (with_reducible refine (errataref28_Equal.calls kj29 _ _ t204 _ _ t210 false _ ?side1 ?side2 ?side3 ?side4 A53.out).mono ?_); (case side1 => repeat (first | exact (Kd.V_reads' HO206.out).2.2 | (with_reducible refine Kd.C_alloc ?_ _) | (with_reducible refine Kd.C_drewN ?_ _) | (with_reducible refine Kd.C_drew ?_))); (case side2 => exact (Kd.V_reads' HO206.out).2.1); (case side3 => repeat (first | exact (Kd.V_reads' HO212.out).2.2 | (with_reducible refine Kd.C_alloc ?_ _) | (with_reducible refine Kd.C_drewN ?_ _) | (with_reducible refine Kd.C_drew ?_))); (case side4 => exact (Kd.V_reads' HO212.out).2.1); rintro e w154 ⟨rfl, hb⟩; refine ⟨_, rfl, ?_⟩; have n0_ := Aside0.mk (Cmp.vb hb HO_10.out); have n1_ := Aside0.mk (Cmp.vb hb HO_11.out); have n2_ := Aside0.mk (Cmp.vb hb HO203.out); have n3_ := Aside0.mk (Cmp.vb hb HO206.out); have n4_ := Aside0.mk (Cmp.vb hb HO209.out); have n5_ := Aside0.mk (Cmp.vb hb HO212.out); have n6_ := Aside0.mk (below_step (Cmp.bq HB.out) hb); clear HO_10; clear HO_11; clear HO203; clear HO206; clear HO209; clear HO212; clear HB; have HO_10 := n0_; have HO_11 := n1_; have HO203 := n2_; have HO206 := n3_; have HO209 := n4_; have HO212 := n5_; have HB := n6_; clear n0_ n1_ n2_ n3_ n4_ n5_ n6_; (try clear hb); (try clear hb2); (try clear hk); (try clear hi)))
                              go_ret
                              exact ⟨by first | rfl | (simp [errW_none, errW_some] <;> rfl) | (simp [*, errW_none, errW_some] <;> rfl), by repeat (first | (with_reducible first | exact HB.out | apply below_alloc | apply pw_below_drewN | apply below_drew1) | exact HB.out)⟩
                            · replace c145 := Bool.eq_false_iff.mpr c145
                              subst c145
                              have H1 : (some false) = some r := by rw [if_neg (show ¬ (false = true) by decide)] at H; exact H
                              clear H
                              have H := H1
                              clear H1
                              obtain rfl := Option.some.inj H
                              go_wp2_with (first | ((with_reducible refine gate_callee (f := 16) rfl ?_); refine goesL_ (some 74) rfl rfl Tryd.func16 (by kernel_rfl) rfl #[.slice A0 l0.length c0, .slice A1 l1.length c1] rfl Cmp.au ?_; (with_reducible refine (delta_Add.calls _ _ l0 _ _ l1 t201 _ ?side1 ?side2 ?side3 ?side4 A49.out).mono ?_); (case side1 => exact Cmp.cb (Kd.C_below HR0.out HB.out)); (case side2 => exact HC0.out); (case side3 => exact Cmp.cb (Kd.C_below HR1.out HB.out)); (case side4 => exact HC1.out); rintro e w155 ⟨v202, rfl, ho0, hb⟩; refine ⟨_, rfl, ?_⟩; have n0_ := Aside0.mk (Cmp.vb hb HO_10.out); have n1_ := Aside0.mk (Cmp.vb hb HO_11.out); have n2_ := Aside0.mk (Kd.V_lower (Kd.V_mono (ok' := fun k_ => True) ho0 (fun k_ hk_ => trivial)) (below_size (Cmp.bq HB.out))); have n3_ := Aside0.mk (below_step (Cmp.bq HB.out) hb); clear HO_10; clear HO_11; clear HB; have HO_10 := n0_; have HO_11 := n1_; have HO203 := n2_; have HB := n3_; clear n0_ n1_ n2_ n3_; (try clear hb); (try clear hb2); (try clear hk); (try clear hi); (try clear ho0); obtain ⟨Ao156, co156, eo156⟩ := Kd.V_slice HO203.out; subst eo156) | ((with_reducible refine gate_callee (f := 12) rfl ?_); refine goesL_ (some 76) rfl rfl Tryd.func12 (by kernel_rfl) rfl #[.slice Ao156 t201.length co156, .int .i64 a2] rfl Cmp.au ?_; (with_reducible refine (delta_Upto.calls _ _ t201 a2 t204 _ ?side1 ?side2 A50.out).mono ?_); (case side1 => repeat (first | exact (Kd.V_reads' HO203.out).2.2 | (with_reducible refine Kd.C_alloc ?_ _) | (with_reducible refine Kd.C_drewN ?_ _) | (with_reducible refine Kd.C_drew ?_))); (case side2 => exact (Kd.V_reads' HO203.out).2.1); rintro e w157 ⟨v205, rfl, ho0, hb⟩; refine ⟨_, rfl, ?_⟩; have n0_ := Aside0.mk (Cmp.vb hb HO_10.out); have n1_ := Aside0.mk (Cmp.vb hb HO_11.out); have n2_ := Aside0.mk (Cmp.vb hb HO203.out); have n3_ := Aside0.mk (Kd.V_lower (Kd.V_mono (ok' := fun k_ => True) ho0 (fun k_ hk_ => trivial)) (below_size (Cmp.bq HB.out))); have n4_ := Aside0.mk (below_step (Cmp.bq HB.out) hb); clear HO_10; clear HO_11; clear HO203; clear HB; have HO_10 := n0_; have HO_11 := n1_; have HO203 := n2_; have HO206 := n3_; have HB := n4_; clear n0_ n1_ n2_ n3_ n4_; (try clear hb); (try clear hb2); (try clear hk); (try clear hi); (try clear ho0)) | ((with_reducible refine gate_callee (f := 12) rfl ?_); refine goesL_ (some 80) rfl rfl Tryd.func12 (by kernel_rfl) rfl #[.slice A1 l1.length c1, .int .i64 a2] rfl Cmp.au ?_; (with_reducible refine (delta_Upto.calls _ _ l1 a2 t207 _ ?side1 ?side2 A51.out).mono ?_); (case side1 => exact Cmp.cb (Kd.C_below HR1.out HB.out)); (case side2 => exact HC1.out); rintro e w158 ⟨v208, rfl, ho0, hb⟩; refine ⟨_, rfl, ?_⟩; have n0_ := Aside0.mk (Cmp.vb hb HO_10.out); have n1_ := Aside0.mk (Cmp.vb hb HO_11.out); have n2_ := Aside0.mk (Cmp.vb hb HO203.out); have n3_ := Aside0.mk (Cmp.vb hb HO206.out); have n4_ := Aside0.mk (Kd.V_lower (Kd.V_mono (ok' := fun k_ => True) ho0 (fun k_ hk_ => trivial)) (below_size (Cmp.bq HB.out))); have n5_ := Aside0.mk (below_step (Cmp.bq HB.out) hb); clear HO_10; clear HO_11; clear HO203; clear HO206; clear HB; have HO_10 := n0_; have HO_11 := n1_; have HO203 := n2_; have HO206 := n3_; have HO209 := n4_; have HB := n5_; clear n0_ n1_ n2_ n3_ n4_ n5_; (try clear hb); (try clear hb2); (try clear hk); (try clear hi); (try clear ho0); obtain ⟨Ao159, co159, eo159⟩ := Kd.V_slice HO209.out; subst eo159) | ((with_reducible refine gate_callee (f := 16) rfl ?_); refine goesL_ (some 81) rfl rfl Tryd.func16 (by kernel_rfl) rfl #[.slice Ao24 t184.length co24, .slice Ao159 t207.length co159] rfl Cmp.au ?_; (with_reducible refine (delta_Add.calls _ _ t184 _ _ t207 t210 _ ?side1 ?side2 ?side3 ?side4 A52.out).mono ?_); (case side1 => repeat (first | exact (Kd.V_reads' HO_10.out).2.2 | (with_reducible refine Kd.C_alloc ?_ _) | (with_reducible refine Kd.C_drewN ?_ _) | (with_reducible refine Kd.C_drew ?_))); (case side2 => exact (Kd.V_reads' HO_10.out).2.1); (case side3 => repeat (first | exact (Kd.V_reads' HO209.out).2.2 | (with_reducible refine Kd.C_alloc ?_ _) | (with_reducible refine Kd.C_drewN ?_ _) | (with_reducible refine Kd.C_drew ?_))); (case side4 => exact (Kd.V_reads' HO209.out).2.1); rintro e w160 ⟨v211, rfl, ho0, hb⟩; refine ⟨_, rfl, ?_⟩; have n0_ := Aside0.mk (Cmp.vb hb HO_10.out); have n1_ := Aside0.mk (Cmp.vb hb HO_11.out); have n2_ := Aside0.mk (Cmp.vb hb HO203.out); have n3_ := Aside0.mk (Cmp.vb hb HO206.out); have n4_ := Aside0.mk (Cmp.vb hb HO209.out); have n5_ := Aside0.mk (Kd.V_lower (Kd.V_mono (ok' := fun k_ => True) ho0 (fun k_ hk_ => trivial)) (below_size (Cmp.bq HB.out))); have n6_ := Aside0.mk (below_step (Cmp.bq HB.out) hb); clear HO_10; clear HO_11; clear HO203; clear HO206; clear HO209; clear HB; have HO_10 := n0_; have HO_11 := n1_; have HO203 := n2_; have HO206 := n3_; have HO209 := n4_; have HO212 := n5_; have HB := n6_; clear n0_ n1_ n2_ n3_ n4_ n5_ n6_; (try clear hb); (try clear hb2); (try clear hk); (try clear hi); (try clear ho0); obtain ⟨Ao161, co161, eo161⟩ := Kd.V_slice HO206.out; subst eo161; obtain ⟨Ao162, co162, eo162⟩ := Kd.V_slice HO212.out; subst eo162) | ((with_reducible refine gate_callee (f := 15) rfl ?_); refine goesL_ (some 82) rfl rfl Tryd.func15 (by kernel_rfl) rfl #[.slice Ao161 t204.length co161, .slice Ao162 t210.length co162] rfl Cmp.au ?_; (with_reducible refine (errataref28_Equal.calls kj29 _ _ t204 _ _ t210 false _ ?side1 ?side2 ?side3 ?side4 A53.out).mono ?_); (case side1 => repeat (first | exact (Kd.V_reads' HO206.out).2.2 | (with_reducible refine Kd.C_alloc ?_ _) | (with_reducible refine Kd.C_drewN ?_ _) | (with_reducible refine Kd.C_drew ?_))); (case side2 => exact (Kd.V_reads' HO206.out).2.1); (case side3 => repeat (first | exact (Kd.V_reads' HO212.out).2.2 | (with_reducible refine Kd.C_alloc ?_ _) | (with_reducible refine Kd.C_drewN ?_ _) | (with_reducible refine Kd.C_drew ?_))); (case side4 => exact (Kd.V_reads' HO212.out).2.1); rintro e w163 ⟨rfl, hb⟩; refine ⟨_, rfl, ?_⟩; have n0_ := Aside0.mk (Cmp.vb hb HO_10.out); have n1_ := Aside0.mk (Cmp.vb hb HO_11.out); have n2_ := Aside0.mk (Cmp.vb hb HO203.out); have n3_ := Aside0.mk (Cmp.vb hb HO206.out); have n4_ := Aside0.mk (Cmp.vb hb HO209.out); have n5_ := Aside0.mk (Cmp.vb hb HO212.out); have n6_ := Aside0.mk (below_step (Cmp.bq HB.out) hb); clear HO_10; clear HO_11; clear HO203; clear HO206; clear HO209; clear HO212; clear HB; have HO_10 := n0_; have HO_11 := n1_; have HO203 := n2_; have HO206 := n3_; have HO209 := n4_; have HO212 := n5_; have HB := n6_; clear n0_ n1_ n2_ n3_ n4_ n5_ n6_; (try clear hb); (try clear hb2); (try clear hk); (try clear hi)))
                              go_ret
                              exact ⟨by first | rfl | (simp [errW_none, errW_some] <;> rfl) | (simp [*, errW_none, errW_some] <;> rfl), by repeat (first | (with_reducible first | exact HB.out | apply below_alloc | apply pw_below_drewN | apply below_drew1) | exact HB.out)⟩
                          · replace c144 := Bool.eq_false_iff.mpr c144
                            subst c144
                            have H1 : (some false) = some r := by rw [if_neg (show ¬ (false = true) by decide)] at H; exact H
                            clear H
                            have H := H1
                            clear H1
                            obtain rfl := Option.some.inj H
                            go_wp2_with (first | ((with_reducible refine gate_callee (f := 16) rfl ?_); refine goesL_ (some 74) rfl rfl Tryd.func16 (by kernel_rfl) rfl #[.slice A0 l0.length c0, .slice A1 l1.length c1] rfl Cmp.au ?_; (with_reducible refine (delta_Add.calls _ _ l0 _ _ l1 t201 _ ?side1 ?side2 ?side3 ?side4 A49.out).mono ?_); (case side1 => exact Cmp.cb (Kd.C_below HR0.out HB.out)); (case side2 => exact HC0.out); (case side3 => exact Cmp.cb (Kd.C_below HR1.out HB.out)); (case side4 => exact HC1.out); rintro e w164 ⟨v202, rfl, ho0, hb⟩; refine ⟨_, rfl, ?_⟩; have n0_ := Aside0.mk (Cmp.vb hb HO_10.out); have n1_ := Aside0.mk (Cmp.vb hb HO_11.out); have n2_ := Aside0.mk (Kd.V_lower (Kd.V_mono (ok' := fun k_ => True) ho0 (fun k_ hk_ => trivial)) (below_size (Cmp.bq HB.out))); have n3_ := Aside0.mk (below_step (Cmp.bq HB.out) hb); clear HO_10; clear HO_11; clear HB; have HO_10 := n0_; have HO_11 := n1_; have HO203 := n2_; have HB := n3_; clear n0_ n1_ n2_ n3_; (try clear hb); (try clear hb2); (try clear hk); (try clear hi); (try clear ho0); obtain ⟨Ao165, co165, eo165⟩ := Kd.V_slice HO203.out; subst eo165) | ((with_reducible refine gate_callee (f := 12) rfl ?_); refine goesL_ (some 76) rfl rfl Tryd.func12 (by kernel_rfl) rfl #[.slice Ao165 t201.length co165, .int .i64 a2] rfl Cmp.au ?_; (with_reducible refine (delta_Upto.calls _ _ t201 a2 t204 _ ?side1 ?side2 A50.out).mono ?_); (case side1 => repeat (first | exact (Kd.V_reads' HO203.out).2.2 | (with_reducible refine Kd.C_alloc ?_ _) | (with_reducible refine Kd.C_drewN ?_ _) | (with_reducible refine Kd.C_drew ?_))); (case side2 => exact (Kd.V_reads' HO203.out).2.1); rintro e w166 ⟨v205, rfl, ho0, hb⟩; refine ⟨_, rfl, ?_⟩; have n0_ := Aside0.mk (Cmp.vb hb HO_10.out); have n1_ := Aside0.mk (Cmp.vb hb HO_11.out); have n2_ := Aside0.mk (Cmp.vb hb HO203.out); have n3_ := Aside0.mk (Kd.V_lower (Kd.V_mono (ok' := fun k_ => True) ho0 (fun k_ hk_ => trivial)) (below_size (Cmp.bq HB.out))); have n4_ := Aside0.mk (below_step (Cmp.bq HB.out) hb); clear HO_10; clear HO_11; clear HO203; clear HB; have HO_10 := n0_; have HO_11 := n1_; have HO203 := n2_; have HO206 := n3_; have HB := n4_; clear n0_ n1_ n2_ n3_ n4_; (try clear hb); (try clear hb2); (try clear hk); (try clear hi); (try clear ho0)) | ((with_reducible refine gate_callee (f := 12) rfl ?_); refine goesL_ (some 80) rfl rfl Tryd.func12 (by kernel_rfl) rfl #[.slice A1 l1.length c1, .int .i64 a2] rfl Cmp.au ?_; (with_reducible refine (delta_Upto.calls _ _ l1 a2 t207 _ ?side1 ?side2 A51.out).mono ?_); (case side1 => exact Cmp.cb (Kd.C_below HR1.out HB.out)); (case side2 => exact HC1.out); rintro e w167 ⟨v208, rfl, ho0, hb⟩; refine ⟨_, rfl, ?_⟩; have n0_ := Aside0.mk (Cmp.vb hb HO_10.out); have n1_ := Aside0.mk (Cmp.vb hb HO_11.out); have n2_ := Aside0.mk (Cmp.vb hb HO203.out); have n3_ := Aside0.mk (Cmp.vb hb HO206.out); have n4_ := Aside0.mk (Kd.V_lower (Kd.V_mono (ok' := fun k_ => True) ho0 (fun k_ hk_ => trivial)) (below_size (Cmp.bq HB.out))); have n5_ := Aside0.mk (below_step (Cmp.bq HB.out) hb); clear HO_10; clear HO_11; clear HO203; clear HO206; clear HB; have HO_10 := n0_; have HO_11 := n1_; have HO203 := n2_; have HO206 := n3_; have HO209 := n4_; have HB := n5_; clear n0_ n1_ n2_ n3_ n4_ n5_; (try clear hb); (try clear hb2); (try clear hk); (try clear hi); (try clear ho0); obtain ⟨Ao168, co168, eo168⟩ := Kd.V_slice HO209.out; subst eo168) | ((with_reducible refine gate_callee (f := 16) rfl ?_); refine goesL_ (some 81) rfl rfl Tryd.func16 (by kernel_rfl) rfl #[.slice Ao24 t184.length co24, .slice Ao168 t207.length co168] rfl Cmp.au ?_; (with_reducible refine (delta_Add.calls _ _ t184 _ _ t207 t210 _ ?side1 ?side2 ?side3 ?side4 A52.out).mono ?_); (case side1 => repeat (first | exact (Kd.V_reads' HO_10.out).2.2 | (with_reducible refine Kd.C_alloc ?_ _) | (with_reducible refine Kd.C_drewN ?_ _) | (with_reducible refine Kd.C_drew ?_))); (case side2 => exact (Kd.V_reads' HO_10.out).2.1); (case side3 => repeat (first | exact (Kd.V_reads' HO209.out).2.2 | (with_reducible refine Kd.C_alloc ?_ _) | (with_reducible refine Kd.C_drewN ?_ _) | (with_reducible refine Kd.C_drew ?_))); (case side4 => exact (Kd.V_reads' HO209.out).2.1); rintro e w169 ⟨v211, rfl, ho0, hb⟩; refine ⟨_, rfl, ?_⟩; have n0_ := Aside0.mk (Cmp.vb hb HO_10.out); have n1_ := Aside0.mk (Cmp.vb hb HO_11.out); have n2_ := Aside0.mk (Cmp.vb hb HO203.out); have n3_ := Aside0.mk (Cmp.vb hb HO206.out); have n4_ := Aside0.mk (Cmp.vb hb HO209.out); have n5_ := Aside0.mk (Kd.V_lower (Kd.V_mono (ok' := fun k_ => True) ho0 (fun k_ hk_ => trivial)) (below_size (Cmp.bq HB.out))); have n6_ := Aside0.mk (below_step (Cmp.bq HB.out) hb); clear HO_10; clear HO_11; clear HO203; clear HO206; clear HO209; clear HB; have HO_10 := n0_; have HO_11 := n1_; have HO203 := n2_; have HO206 := n3_; have HO209 := n4_; have HO212 := n5_; have HB := n6_; clear n0_ n1_ n2_ n3_ n4_ n5_ n6_; (try clear hb); (try clear hb2); (try clear hk); (try clear hi); (try clear ho0); obtain ⟨Ao170, co170, eo170⟩ := Kd.V_slice HO206.out; subst eo170; obtain ⟨Ao171, co171, eo171⟩ := Kd.V_slice HO212.out; subst eo171) | ((with_reducible refine gate_callee (f := 15) rfl ?_); refine goesL_ (some 82) rfl rfl Tryd.func15 (by kernel_rfl) rfl #[.slice Ao170 t204.length co170, .slice Ao171 t210.length co171] rfl Cmp.au ?_; (with_reducible refine (errataref28_Equal.calls kj29 _ _ t204 _ _ t210 false _ ?side1 ?side2 ?side3 ?side4 A53.out).mono ?_); (case side1 => repeat (first | exact (Kd.V_reads' HO206.out).2.2 | (with_reducible refine Kd.C_alloc ?_ _) | (with_reducible refine Kd.C_drewN ?_ _) | (with_reducible refine Kd.C_drew ?_))); (case side2 => exact (Kd.V_reads' HO206.out).2.1); (case side3 => repeat (first | exact (Kd.V_reads' HO212.out).2.2 | (with_reducible refine Kd.C_alloc ?_ _) | (with_reducible refine Kd.C_drewN ?_ _) | (with_reducible refine Kd.C_drew ?_))); (case side4 => exact (Kd.V_reads' HO212.out).2.1); rintro e w172 ⟨rfl, hb⟩; refine ⟨_, rfl, ?_⟩; have n0_ := Aside0.mk (Cmp.vb hb HO_10.out); have n1_ := Aside0.mk (Cmp.vb hb HO_11.out); have n2_ := Aside0.mk (Cmp.vb hb HO203.out); have n3_ := Aside0.mk (Cmp.vb hb HO206.out); have n4_ := Aside0.mk (Cmp.vb hb HO209.out); have n5_ := Aside0.mk (Cmp.vb hb HO212.out); have n6_ := Aside0.mk (below_step (Cmp.bq HB.out) hb); clear HO_10; clear HO_11; clear HO203; clear HO206; clear HO209; clear HO212; clear HB; have HO_10 := n0_; have HO_11 := n1_; have HO203 := n2_; have HO206 := n3_; have HO209 := n4_; have HO212 := n5_; have HB := n6_; clear n0_ n1_ n2_ n3_ n4_ n5_ n6_; (try clear hb); (try clear hb2); (try clear hk); (try clear hi)))
                            go_ret
                            exact ⟨by first | rfl | (simp [errW_none, errW_some] <;> rfl) | (simp [*, errW_none, errW_some] <;> rfl), by repeat (first | (with_reducible first | exact HB.out | apply below_alloc | apply pw_below_drewN | apply below_drew1) | exact HB.out)⟩

end Go.Proofs.YtgbodlghggkmoaaDoor.F
