/- Written for this session by a program (mprint.py). -/
import Derived.Test.YtgbodlghggkmoaaDoorG0
import Derived.Test.YtgbodlghggkmoaaDoorG1
import Derived.Test.YtgbodlghggkmoaaDoorG2
import Derived.Test.YtgbodlghggkmoaaDoorG3
namespace Go.Proofs.YtgbodlghggkmoaaDoor.G
open Go.RowKit Go.Proofs.YtgbodlghggkmoaaDoorW.PrintWords Go.Proofs.YtgbodlghggkmoaaDoorW.PrintLast Go.Proofs.YtgbodlghggkmoaaDoorW.PrintMore
attribute [local go_sem] max2_int min2_int max_two min_two max_three min_three max_four min_four   -- for this text's walks alone
set_option linter.unusedVariables false
set_option linter.unusedSimpArgs false

/-! ### erratalaw28_DeltaGroup: function 5 -/
mutual
def erratalaw28_DeltaGroup.j0 : Nat → List (S28) → List (S28) → List (S28) → Bool → Bool → Option (Bool)
  | 0, _, _, _, _, _ => none
  | k + 1, x0, x1, x2, x7, x24 => if x24 = true then (some x7) else ((delta_Add.f x0 x1).bind fun t187 => ((delta_Consolidated.f k t187).bind fun t190 => (if t190 = true then ((delta_Add.f x1 x0).bind fun t191 => ((errataref28_Equal.f k t187 t191).bind fun t194 => (if t194 = true then ((delta_Add.f t187 x2).bind fun t195 => ((delta_Add.f x1 x2).bind fun t198 => ((delta_Add.f x0 t198).bind fun t201 => ((errataref28_Equal.f k t195 t201).bind fun t204 => (if t204 = true then ((delta_Sub.f t187 x1).bind fun t205 => ((delta_Consolidate.f x0).bind fun t208 => ((errataref28_Equal.f k t205 t208).bind fun t211 => (if t211 = true then ((delta_Sub.f x0 x0).bind fun t212 => (erratalaw28_DeltaGroup.j1 k x0 x1 x7 t187 ((t212.length : Int) == 0))) else (erratalaw28_DeltaGroup.j1 k x0 x1 x7 t187 false))))) else (erratalaw28_DeltaGroup.j1 k x0 x1 x7 t187 false)))))) else (erratalaw28_DeltaGroup.j1 k x0 x1 x7 t187 false)))) else (erratalaw28_DeltaGroup.j1 k x0 x1 x7 t187 false))))
def erratalaw28_DeltaGroup.j1 : Nat → List (S28) → List (S28) → Bool → List (S28) → Bool → Option (Bool)
  | 0, _, _, _, _, _ => none
  | k + 1, x0, x1, x7, x8, x9 => erratalaw28_DeltaGroup.l0 k x0 x1 x7 x8 x9 0
def erratalaw28_DeltaGroup.l0 : Nat → List (S28) → List (S28) → Bool → List (S28) → Bool → Int → Option (Bool)
  | 0, _, _, _, _, _, _ => none
  | k + 1, x0, x1, x7, x8, x9, x10 => if x10 < (x0.length : Int) then (if 0 ≤ x10 then ((delta_Find.f k x8 ((rd_T28 x0 x10).f0) ((rd_T28 x0 x10).f1)).bind fun t217 => ((delta_Find.f k x0 ((rd_T28 x0 x10).f0) ((rd_T28 x0 x10).f1)).bind fun t220 => ((delta_Find.f k x1 ((rd_T28 x0 x10).f0) ((rd_T28 x0 x10).f1)).bind fun t223 => (if t217 = (wrap64 (t220 + t223)) then (erratalaw28_DeltaGroup.l0 k x0 x1 x7 x8 x9 (wrap64 (x10 + 1))) else (some false))))) else (none)) else (if x7 = true then (if x9 = true then ((delta_Count.f k x8).bind fun t224 => ((delta_Count.f k x0).bind fun t225 => ((delta_Count.f k x1).bind fun t226 => (if t224 = (wrap64 (t225 + t226)) then ((delta_Consolidate.f x0).bind fun t227 => ((delta_Same.f t227 x0).bind fun t230 => (if t230 = true then ((delta_Consolidate.f x8).bind fun t231 => ((errataref28_Equal.f k t231 x8).bind fun t234 => (some t234))) else (some false)))) else (some false))))) else (some false)) else (some false))
end
def erratalaw28_DeltaGroup.f (k : Nat) (l0 : List (S28)) (l1 : List (S28)) (l2 : List (S28)) : Option (Bool) := (erratalaw28_small.f k).bind fun t183 => ((erratalaw28_few.f k l0 100).bind fun t184 => (if t184 = true then ((erratalaw28_few.f k l1 100).bind fun t185 => (if t185 = true then ((erratalaw28_few.f k l2 100).bind fun t186 => (erratalaw28_DeltaGroup.j0 k l0 l1 l2 t183 (!t186))) else (erratalaw28_DeltaGroup.j0 k l0 l1 l2 t183 true))) else (erratalaw28_DeltaGroup.j0 k l0 l1 l2 t183 true)))
theorem erratalaw28_DeltaGroup.mono_l : ∀ k, (∀ y0 y1 y2 y3 y4, LeO (erratalaw28_DeltaGroup.j0 k y0 y1 y2 y3 y4) (erratalaw28_DeltaGroup.j0 (k + 1) y0 y1 y2 y3 y4)) ∧ (∀ y0 y1 y2 y3 y4, LeO (erratalaw28_DeltaGroup.j1 k y0 y1 y2 y3 y4) (erratalaw28_DeltaGroup.j1 (k + 1) y0 y1 y2 y3 y4)) ∧ (∀ y0 y1 y2 y3 y4 y5, LeO (erratalaw28_DeltaGroup.l0 k y0 y1 y2 y3 y4 y5) (erratalaw28_DeltaGroup.l0 (k + 1) y0 y1 y2 y3 y4 y5))
  | 0 => ⟨fun _ _ _ _ _ r h => by simp [erratalaw28_DeltaGroup.j0] at h, fun _ _ _ _ _ r h => by simp [erratalaw28_DeltaGroup.j1] at h, fun _ _ _ _ _ _ r h => by simp [erratalaw28_DeltaGroup.l0] at h⟩
  | k + 1 => by
    obtain ⟨ih0, ih1, ih2⟩ := erratalaw28_DeltaGroup.mono_l k
    refine ⟨?_, ?_, ?_⟩
    · intro y0 y1 y2 y3 y4
      unfold erratalaw28_DeltaGroup.j0
      repeat' first
      | (with_reducible exact ih0 _ _ _ _ _)
      | (with_reducible exact ih1 _ _ _ _ _)
      | (with_reducible exact ih2 _ _ _ _ _ _)
      | (with_reducible exact delta_Consolidated.mono _ _)
      | (with_reducible exact delta_Count.mono _ _)
      | (with_reducible exact delta_Find.mono _ _ _ _)
      | (with_reducible exact erratalaw28_few.mono _ _ _)
      | (with_reducible exact erratalaw28_small.mono _)
      | (with_reducible exact errataref28_Equal.mono _ _ _)
      | (with_reducible exact LeO.refl _)
      | (with_reducible exact LeO.none _)
      | (with_reducible refine LeO.ite ?_ ?_)
      | (with_reducible refine LeO.bind ?_ (fun _ => ?_))
      | exact ih0 _ _ _ _ _
      | exact ih1 _ _ _ _ _
      | exact ih2 _ _ _ _ _ _
      | exact delta_Consolidated.mono _ _
      | exact delta_Count.mono _ _
      | exact delta_Find.mono _ _ _ _
      | exact erratalaw28_few.mono _ _ _
      | exact erratalaw28_small.mono _
      | exact errataref28_Equal.mono _ _ _
      | exact LeO.none _
      | refine LeO.ite ?_ ?_
      | refine LeO.bind ?_ (fun _ => ?_)
    · intro y0 y1 y2 y3 y4
      unfold erratalaw28_DeltaGroup.j1
      repeat' first
      | (with_reducible exact ih0 _ _ _ _ _)
      | (with_reducible exact ih1 _ _ _ _ _)
      | (with_reducible exact ih2 _ _ _ _ _ _)
      | (with_reducible exact delta_Consolidated.mono _ _)
      | (with_reducible exact delta_Count.mono _ _)
      | (with_reducible exact delta_Find.mono _ _ _ _)
      | (with_reducible exact erratalaw28_few.mono _ _ _)
      | (with_reducible exact erratalaw28_small.mono _)
      | (with_reducible exact errataref28_Equal.mono _ _ _)
      | (with_reducible exact LeO.refl _)
      | (with_reducible exact LeO.none _)
      | (with_reducible refine LeO.ite ?_ ?_)
      | (with_reducible refine LeO.bind ?_ (fun _ => ?_))
      | exact ih0 _ _ _ _ _
      | exact ih1 _ _ _ _ _
      | exact ih2 _ _ _ _ _ _
      | exact delta_Consolidated.mono _ _
      | exact delta_Count.mono _ _
      | exact delta_Find.mono _ _ _ _
      | exact erratalaw28_few.mono _ _ _
      | exact erratalaw28_small.mono _
      | exact errataref28_Equal.mono _ _ _
      | exact LeO.none _
      | refine LeO.ite ?_ ?_
      | refine LeO.bind ?_ (fun _ => ?_)
    · intro y0 y1 y2 y3 y4 y5
      unfold erratalaw28_DeltaGroup.l0
      repeat' first
      | (with_reducible exact ih0 _ _ _ _ _)
      | (with_reducible exact ih1 _ _ _ _ _)
      | (with_reducible exact ih2 _ _ _ _ _ _)
      | (with_reducible exact delta_Consolidated.mono _ _)
      | (with_reducible exact delta_Count.mono _ _)
      | (with_reducible exact delta_Find.mono _ _ _ _)
      | (with_reducible exact erratalaw28_few.mono _ _ _)
      | (with_reducible exact erratalaw28_small.mono _)
      | (with_reducible exact errataref28_Equal.mono _ _ _)
      | (with_reducible exact LeO.refl _)
      | (with_reducible exact LeO.none _)
      | (with_reducible refine LeO.ite ?_ ?_)
      | (with_reducible refine LeO.bind ?_ (fun _ => ?_))
      | exact ih0 _ _ _ _ _
      | exact ih1 _ _ _ _ _
      | exact ih2 _ _ _ _ _ _
      | exact delta_Consolidated.mono _ _
      | exact delta_Count.mono _ _
      | exact delta_Find.mono _ _ _ _
      | exact erratalaw28_few.mono _ _ _
      | exact erratalaw28_small.mono _
      | exact errataref28_Equal.mono _ _ _
      | exact LeO.none _
      | refine LeO.ite ?_ ?_
      | refine LeO.bind ?_ (fun _ => ?_)
theorem erratalaw28_DeltaGroup.mono : ∀ a0 a1 a2 k, LeO (erratalaw28_DeltaGroup.f k a0 a1 a2) (erratalaw28_DeltaGroup.f (k + 1) a0 a1 a2) := by
  intro a0 a1 a2 k
  obtain ⟨ih0, ih1, ih2⟩ := erratalaw28_DeltaGroup.mono_l k
  unfold erratalaw28_DeltaGroup.f
  repeat' first
      | (with_reducible exact ih0 _ _ _ _ _)
      | (with_reducible exact ih1 _ _ _ _ _)
      | (with_reducible exact ih2 _ _ _ _ _ _)
      | (with_reducible exact delta_Consolidated.mono _ _)
      | (with_reducible exact delta_Count.mono _ _)
      | (with_reducible exact delta_Find.mono _ _ _ _)
      | (with_reducible exact erratalaw28_few.mono _ _ _)
      | (with_reducible exact erratalaw28_small.mono _)
      | (with_reducible exact errataref28_Equal.mono _ _ _)
      | (with_reducible exact LeO.refl _)
      | (with_reducible exact LeO.none _)
      | (with_reducible refine LeO.ite ?_ ?_)
      | (with_reducible refine LeO.bind ?_ (fun _ => ?_))
      | exact ih0 _ _ _ _ _
      | exact ih1 _ _ _ _ _
      | exact ih2 _ _ _ _ _ _
      | exact delta_Consolidated.mono _ _
      | exact delta_Count.mono _ _
      | exact delta_Find.mono _ _ _ _
      | exact erratalaw28_few.mono _ _ _
      | exact erratalaw28_small.mono _
      | exact errataref28_Equal.mono _ _ _
      | exact LeO.none _
      | refine LeO.ite ?_ ?_
      | refine LeO.bind ?_ (fun _ => ?_)
def erratalaw28_DeltaGroup.T9 : Bool × List (List Nat × List Nat) := (true, [([], []), ([], []), ([], []), ([1, 2], [1, 2]), ([3], [3]), ([4], [4]), ([], []), ([], []), ([6, 7], [6, 7]), ([8], [8]), ([9], [9]), ([0, 5, 10], [0, 5, 10]), ([], []), ([], []), ([], []), ([13, 14], [13, 14]), ([15], [15]), ([16], [16]), ([], []), ([], []), ([18, 19], [18, 19]), ([20], [20]), ([21], [21]), ([12, 17, 22, 11], [12, 17, 22]), ([], []), ([], []), ([], []), ([25, 26], [25, 26]), ([27], [27]), ([28], [28]), ([], []), ([], []), ([30, 31], [30, 31]), ([32], [32]), ([33], [33]), ([24, 29, 34, 23], [24, 29, 34]), ([23, 35], [23, 35]), ([11, 36], [11, 36])])
def erratalaw28_DeltaGroup.B9 : List Nat := [0, 0, 0, 6, 14, 30, 0, 0, 192, 448, 960, 2047, 0, 0, 0, 24576, 57344, 122880, 0, 0, 786432, 1835008, 3932160, 8388607, 0, 0, 0, 100663296, 234881024, 503316480, 0, 0, 3221225472, 7516192768, 16106127360, 34359738367, 68719476735, 137438953471]
theorem erratalaw28_DeltaGroup.tab9 : rtab .any (opsOf Tryd.f5 9) = erratalaw28_DeltaGroup.T9 := by kernel_rfl
theorem erratalaw28_DeltaGroup.bits9 : waitsOk erratalaw28_DeltaGroup.T9.2 erratalaw28_DeltaGroup.B9 = true := by kernel_rfl
set_option maxHeartbeats 8000000 in
set_option maxRecDepth 100000 in
theorem erratalaw28_DeltaGroup.calls (k : Nat) (A0 : Option Addr) (c0 : Nat) (l0 : List (S28)) (A1 : Option Addr) (c1 : Nat) (l1 : List (S28)) (A2 : Option Addr) (c2 : Nat) (l2 : List (S28)) (r : Bool) (w : World) (hr0 : Kd.C k28 w A0 l0.length l0) (hc0 : l0.length ≤ c0) (hr1 : Kd.C k28 w A1 l1.length l1) (hc1 : l1.length ≤ c1) (hr2 : Kd.C k28 w A2 l2.length l2) (hc2 : l2.length ≤ c2) (h : erratalaw28_DeltaGroup.f k l0 l1 l2 = some r) :
    Calls Tryd.prog 5 #[.slice A0 l0.length c0, .slice A1 l1.length c1, .slice A2 l2.length c2] w fun e w' => e = .returned (.bool r) ∧ Below w.heap.size w w' := by
  have HR0 := Aside0.mk hr0
  have HC0 := Aside0.mk hc0
  clear hr0 hc0
  have HR1 := Aside0.mk hr1
  have HC1 := Aside0.mk hc1
  clear hr1 hc1
  have HR2 := Aside0.mk hr2
  have HC2 := Aside0.mk hc2
  clear hr2 hc2
  have HB := Aside0.mk (Below.refl w.heap.size w)
  have H : ((erratalaw28_small.f k).bind fun t183 => ((erratalaw28_few.f k l0 100).bind fun t184 => (if t184 = true then ((erratalaw28_few.f k l1 100).bind fun t185 => (if t185 = true then ((erratalaw28_few.f k l2 100).bind fun t186 => (erratalaw28_DeltaGroup.j0 k l0 l1 l2 t183 (!t186))) else (erratalaw28_DeltaGroup.j0 k l0 l1 l2 t183 true))) else (erratalaw28_DeltaGroup.j0 k l0 l1 l2 t183 true)))) = some r := h
  clear h
  replace H := Option.bind_eq_some_iff.mp H
  obtain ⟨t183, A40, H⟩ := H
  replace H : ((erratalaw28_few.f k l0 100).bind fun t184 => (if t184 = true then ((erratalaw28_few.f k l1 100).bind fun t185 => (if t185 = true then ((erratalaw28_few.f k l2 100).bind fun t186 => (erratalaw28_DeltaGroup.j0 k l0 l1 l2 t183 (!t186))) else (erratalaw28_DeltaGroup.j0 k l0 l1 l2 t183 true))) else (erratalaw28_DeltaGroup.j0 k l0 l1 l2 t183 true))) = some r := H
  have A4 := Aside0.mk A40
  clear A40
  have HC5 := Aside0.mk H
  clear H
  go_enter Tryd.func5, Tryd.ntmps5
  go_upto_region 2 with (first | ((with_reducible refine gate_callee (f := 10) rfl ?_); refine goesL_ (some 11) rfl rfl Tryd.func10 (by kernel_rfl) rfl #[] rfl Cmp.au ?_; (with_reducible refine (erratalaw28_small.calls k  t183 _ A4.out).mono ?_); rintro e w6 ⟨rfl, hb⟩; refine ⟨_, rfl, ?_⟩; have n0_ := Aside0.mk (below_step (Cmp.bq HB.out) hb); clear HB; have HB := n0_; clear n0_; (try clear hb); (try clear hb2); (try clear hk); (try clear hi)))
  (try simp only [Act.put, List.setIfInBounds_toArray, List.set_cons_zero, List.set_cons_succ])
  go_cut [24] (fun v24 wc => ∃ (kq : Nat) (x24_4 : Bool), v24 = .bool x24_4 ∧ Aside0 (erratalaw28_DeltaGroup.j0 kq l0 l1 l2 t183 x24_4 = some r) ∧ Aside0 (kq ≤ k) ∧ Aside0 (Below w.heap.size w wc))
  case first =>
    have H := HC5.out
    clear HC5
    replace H := Option.bind_eq_some_iff.mp H
    obtain ⟨t184, A70, H⟩ := H
    replace H : (if t184 = true then ((erratalaw28_few.f k l1 100).bind fun t185 => (if t185 = true then ((erratalaw28_few.f k l2 100).bind fun t186 => (erratalaw28_DeltaGroup.j0 k l0 l1 l2 t183 (!t186))) else (erratalaw28_DeltaGroup.j0 k l0 l1 l2 t183 true))) else (erratalaw28_DeltaGroup.j0 k l0 l1 l2 t183 true)) = some r := H
    have A7 := Aside0.mk A70
    clear A70
    by_cases c8 : t184 = true
    · subst c8
      have H1 : ((erratalaw28_few.f k l1 100).bind fun t185 => (if t185 = true then ((erratalaw28_few.f k l2 100).bind fun t186 => (erratalaw28_DeltaGroup.j0 k l0 l1 l2 t183 (!t186))) else (erratalaw28_DeltaGroup.j0 k l0 l1 l2 t183 true))) = some r := by rw [if_pos rfl] at H; exact H
      clear H
      have H := H1
      clear H1
      replace H := Option.bind_eq_some_iff.mp H
      obtain ⟨t185, A90, H⟩ := H
      replace H : (if t185 = true then ((erratalaw28_few.f k l2 100).bind fun t186 => (erratalaw28_DeltaGroup.j0 k l0 l1 l2 t183 (!t186))) else (erratalaw28_DeltaGroup.j0 k l0 l1 l2 t183 true)) = some r := H
      have A9 := Aside0.mk A90
      clear A90
      by_cases c10 : t185 = true
      · subst c10
        have H1 : ((erratalaw28_few.f k l2 100).bind fun t186 => (erratalaw28_DeltaGroup.j0 k l0 l1 l2 t183 (!t186))) = some r := by rw [if_pos rfl] at H; exact H
        clear H
        have H := H1
        clear H1
        replace H := Option.bind_eq_some_iff.mp H
        obtain ⟨t186, A110, H⟩ := H
        replace H : (erratalaw28_DeltaGroup.j0 k l0 l1 l2 t183 (!t186)) = some r := H
        have A11 := Aside0.mk A110
        clear A110
        have H' := Aside0.mk H
        clear H
        go_wp2_with (first | ((with_reducible refine gate_callee (f := 11) rfl ?_); refine goesL_ (some 13) rfl rfl Tryd.func11 (by kernel_rfl) rfl #[.slice A0 l0.length c0, .int .i64 100] rfl Cmp.au ?_; (with_reducible refine (erratalaw28_few.calls k _ _ l0 100 true _ ?side1 ?side2 A7.out).mono ?_); (case side1 => exact Cmp.cb (Kd.C_below HR0.out HB.out)); (case side2 => exact HC0.out); rintro e w12 ⟨rfl, hb⟩; refine ⟨_, rfl, ?_⟩; have n0_ := Aside0.mk (below_step (Cmp.bq HB.out) hb); clear HB; have HB := n0_; clear n0_; (try clear hb); (try clear hb2); (try clear hk); (try clear hi)) | (go_at_call 11; (with_reducible refine (erratalaw28_few.calls k _ _ l1 100 true _ ?side1 ?side2 A9.out).mono ?_); (case side1 => exact Cmp.cb (Kd.C_below HR1.out HB.out)); (case side2 => exact HC1.out); rintro e w13 ⟨rfl, hb⟩; have n0_ := Aside0.mk (below_step (Cmp.bq HB.out) hb); clear HB; have HB := n0_; clear n0_; (try clear hb); (try clear hb2); (try clear hk); (try clear hi)) | (go_at_call 11; (with_reducible refine (erratalaw28_few.calls k _ _ l2 100 t186 _ ?side1 ?side2 A11.out).mono ?_); (case side1 => exact Cmp.cb (Kd.C_below HR2.out HB.out)); (case side2 => exact HC2.out); rintro e w14 ⟨rfl, hb⟩; have n0_ := Aside0.mk (below_step (Cmp.bq HB.out) hb); clear HB; have HB := n0_; clear n0_; (try clear hb); (try clear hb2); (try clear hk); (try clear hi)))
        go_meet
        case rel => exact ⟨_, (!t186), (by first | rfl | (simp; done) | (simp [*]; done)), H', ⟨by first | omega | exact Nat.le_refl _⟩, ⟨by repeat (first | (with_reducible first | exact HB.out | apply below_alloc | apply pw_below_drewN | apply below_drew1) | exact HB.out)⟩⟩
      · replace c10 := Bool.eq_false_iff.mpr c10
        subst c10
        have H1 : (erratalaw28_DeltaGroup.j0 k l0 l1 l2 t183 true) = some r := by rw [if_neg (show ¬ (false = true) by decide)] at H; exact H
        clear H
        have H := H1
        clear H1
        have H' := Aside0.mk H
        clear H
        go_wp2_with (first | ((with_reducible refine gate_callee (f := 11) rfl ?_); refine goesL_ (some 13) rfl rfl Tryd.func11 (by kernel_rfl) rfl #[.slice A0 l0.length c0, .int .i64 100] rfl Cmp.au ?_; (with_reducible refine (erratalaw28_few.calls k _ _ l0 100 true _ ?side1 ?side2 A7.out).mono ?_); (case side1 => exact Cmp.cb (Kd.C_below HR0.out HB.out)); (case side2 => exact HC0.out); rintro e w15 ⟨rfl, hb⟩; refine ⟨_, rfl, ?_⟩; have n0_ := Aside0.mk (below_step (Cmp.bq HB.out) hb); clear HB; have HB := n0_; clear n0_; (try clear hb); (try clear hb2); (try clear hk); (try clear hi)) | (go_at_call 11; (with_reducible refine (erratalaw28_few.calls k _ _ l1 100 false _ ?side1 ?side2 A9.out).mono ?_); (case side1 => exact Cmp.cb (Kd.C_below HR1.out HB.out)); (case side2 => exact HC1.out); rintro e w16 ⟨rfl, hb⟩; have n0_ := Aside0.mk (below_step (Cmp.bq HB.out) hb); clear HB; have HB := n0_; clear n0_; (try clear hb); (try clear hb2); (try clear hk); (try clear hi)))
        go_meet
        case rel => exact ⟨_, (true), (by first | rfl | (simp; done) | (simp [*]; done)), H', ⟨by first | omega | exact Nat.le_refl _⟩, ⟨by repeat (first | (with_reducible first | exact HB.out | apply below_alloc | apply pw_below_drewN | apply below_drew1) | exact HB.out)⟩⟩
    · replace c8 := Bool.eq_false_iff.mpr c8
      subst c8
      have H1 : (erratalaw28_DeltaGroup.j0 k l0 l1 l2 t183 true) = some r := by rw [if_neg (show ¬ (false = true) by decide)] at H; exact H
      clear H
      have H := H1
      clear H1
      have H' := Aside0.mk H
      clear H
      go_wp2_with (first | ((with_reducible refine gate_callee (f := 11) rfl ?_); refine goesL_ (some 13) rfl rfl Tryd.func11 (by kernel_rfl) rfl #[.slice A0 l0.length c0, .int .i64 100] rfl Cmp.au ?_; (with_reducible refine (erratalaw28_few.calls k _ _ l0 100 false _ ?side1 ?side2 A7.out).mono ?_); (case side1 => exact Cmp.cb (Kd.C_below HR0.out HB.out)); (case side2 => exact HC0.out); rintro e w17 ⟨rfl, hb⟩; refine ⟨_, rfl, ?_⟩; have n0_ := Aside0.mk (below_step (Cmp.bq HB.out) hb); clear HB; have HB := n0_; clear n0_; (try clear hb); (try clear hb2); (try clear hk); (try clear hi)))
      go_meet
      case rel => exact ⟨_, (true), (by first | rfl | (simp; done) | (simp [*]; done)), H', ⟨by first | omega | exact Nat.le_refl _⟩, ⟨by repeat (first | (with_reducible first | exact HB.out | apply below_alloc | apply pw_below_drewN | apply below_drew1) | exact HB.out)⟩⟩
  case rest =>
    clear HC5
    try clear c1
    try clear c2
    try clear p2
    try clear c5
    try clear c8
    try clear c10
    try clear c11
    obtain ⟨kq, x24_4, rfl, HA, HJ4, HB⟩ := hcut
    cases kq with
    | zero => exact absurd HA.out (by simp [erratalaw28_DeltaGroup.j0])
    | succ kj4 =>
      have H := HA.out
      clear HA
      simp only [erratalaw28_DeltaGroup.j0] at H
      by_cases c18 : x24_4 = true
      · subst c18
        have H1 : (some t183) = some r := by rw [if_pos rfl] at H; exact H
        clear H
        have H := H1
        clear H1
        obtain rfl := Option.some.inj H
        go_wp2
        go_ret
        exact ⟨by first | rfl | (simp [errW_none, errW_some] <;> rfl) | (simp [*, errW_none, errW_some] <;> rfl), by repeat (first | (with_reducible first | exact HB.out | apply below_alloc | apply pw_below_drewN | apply below_drew1) | exact HB.out)⟩
      · replace c18 := Bool.eq_false_iff.mpr c18
        subst c18
        have H1 : ((delta_Add.f l0 l1).bind fun t187 => ((delta_Consolidated.f kj4 t187).bind fun t190 => (if t190 = true then ((delta_Add.f l1 l0).bind fun t191 => ((errataref28_Equal.f kj4 t187 t191).bind fun t194 => (if t194 = true then ((delta_Add.f t187 l2).bind fun t195 => ((delta_Add.f l1 l2).bind fun t198 => ((delta_Add.f l0 t198).bind fun t201 => ((errataref28_Equal.f kj4 t195 t201).bind fun t204 => (if t204 = true then ((delta_Sub.f t187 l1).bind fun t205 => ((delta_Consolidate.f l0).bind fun t208 => ((errataref28_Equal.f kj4 t205 t208).bind fun t211 => (if t211 = true then ((delta_Sub.f l0 l0).bind fun t212 => (erratalaw28_DeltaGroup.j1 kj4 l0 l1 t183 t187 ((t212.length : Int) == 0))) else (erratalaw28_DeltaGroup.j1 kj4 l0 l1 t183 t187 false))))) else (erratalaw28_DeltaGroup.j1 kj4 l0 l1 t183 t187 false)))))) else (erratalaw28_DeltaGroup.j1 kj4 l0 l1 t183 t187 false)))) else (erratalaw28_DeltaGroup.j1 kj4 l0 l1 t183 t187 false)))) = some r := by rw [if_neg (show ¬ (false = true) by decide)] at H; exact H
        clear H
        have H := H1
        clear H1
        replace H := Option.bind_eq_some_iff.mp H
        obtain ⟨t187, A190, H⟩ := H
        replace H : ((delta_Consolidated.f kj4 t187).bind fun t190 => (if t190 = true then ((delta_Add.f l1 l0).bind fun t191 => ((errataref28_Equal.f kj4 t187 t191).bind fun t194 => (if t194 = true then ((delta_Add.f t187 l2).bind fun t195 => ((delta_Add.f l1 l2).bind fun t198 => ((delta_Add.f l0 t198).bind fun t201 => ((errataref28_Equal.f kj4 t195 t201).bind fun t204 => (if t204 = true then ((delta_Sub.f t187 l1).bind fun t205 => ((delta_Consolidate.f l0).bind fun t208 => ((errataref28_Equal.f kj4 t205 t208).bind fun t211 => (if t211 = true then ((delta_Sub.f l0 l0).bind fun t212 => (erratalaw28_DeltaGroup.j1 kj4 l0 l1 t183 t187 ((t212.length : Int) == 0))) else (erratalaw28_DeltaGroup.j1 kj4 l0 l1 t183 t187 false))))) else (erratalaw28_DeltaGroup.j1 kj4 l0 l1 t183 t187 false)))))) else (erratalaw28_DeltaGroup.j1 kj4 l0 l1 t183 t187 false)))) else (erratalaw28_DeltaGroup.j1 kj4 l0 l1 t183 t187 false))) = some r := H
        have A19 := Aside0.mk A190
        clear A190
        have HC20 := Aside0.mk H
        clear H
        go_upto_region 5 with (first | ((with_reducible refine gate_callee (f := 16) rfl ?_); refine goesL_ (some 28) rfl rfl Tryd.func16 (by kernel_rfl) rfl #[.slice A0 l0.length c0, .slice A1 l1.length c1] rfl Cmp.au ?_; (with_reducible refine (delta_Add.calls _ _ l0 _ _ l1 t187 _ ?side1 ?side2 ?side3 ?side4 A19.out).mono ?_); (case side1 => exact Cmp.cb (Kd.C_below HR0.out HB.out)); (case side2 => exact HC0.out); (case side3 => exact Cmp.cb (Kd.C_below HR1.out HB.out)); (case side4 => exact HC1.out); rintro e w21 ⟨v188, rfl, ho0, hb⟩; refine ⟨_, rfl, ?_⟩; have n0_ := Aside0.mk (Kd.V_lower (Kd.V_mono (ok' := fun k_ => True) ho0 (fun k_ hk_ => trivial)) (below_size (Cmp.bq HB.out))); have n1_ := Aside0.mk (below_step (Cmp.bq HB.out) hb); clear HB; have HO189 := n0_; have HB := n1_; clear n0_ n1_; (try clear hb); (try clear hb2); (try clear hk); (try clear hi); (try clear ho0)))
        (try simp only [Act.put, List.setIfInBounds_toArray, List.set_cons_zero, List.set_cons_succ])
        go_cut [9] (fun v9 wc => ∃ (kq : Nat) (x9_19 : Bool), v9 = .bool x9_19 ∧ Aside0 (erratalaw28_DeltaGroup.j1 kq l0 l1 t183 t187 x9_19 = some r) ∧ Aside0 (kq ≤ kj4) ∧ Aside0 (Kd.V k28 28 wc w.heap.size (fun _ => True) v188 t187) ∧ Aside0 (Below w.heap.size w wc))
        case first =>
          have H := HC20.out
          clear HC20
          replace H := Option.bind_eq_some_iff.mp H
          obtain ⟨t190, A220, H⟩ := H
          replace H : (if t190 = true then ((delta_Add.f l1 l0).bind fun t191 => ((errataref28_Equal.f kj4 t187 t191).bind fun t194 => (if t194 = true then ((delta_Add.f t187 l2).bind fun t195 => ((delta_Add.f l1 l2).bind fun t198 => ((delta_Add.f l0 t198).bind fun t201 => ((errataref28_Equal.f kj4 t195 t201).bind fun t204 => (if t204 = true then ((delta_Sub.f t187 l1).bind fun t205 => ((delta_Consolidate.f l0).bind fun t208 => ((errataref28_Equal.f kj4 t205 t208).bind fun t211 => (if t211 = true then ((delta_Sub.f l0 l0).bind fun t212 => (erratalaw28_DeltaGroup.j1 kj4 l0 l1 t183 t187 ((t212.length : Int) == 0))) else (erratalaw28_DeltaGroup.j1 kj4 l0 l1 t183 t187 false))))) else (erratalaw28_DeltaGroup.j1 kj4 l0 l1 t183 t187 false)))))) else (erratalaw28_DeltaGroup.j1 kj4 l0 l1 t183 t187 false)))) else (erratalaw28_DeltaGroup.j1 kj4 l0 l1 t183 t187 false)) = some r := H
          have A22 := Aside0.mk A220
          clear A220
          by_cases c23 : t190 = true
          · subst c23
            have H1 : ((delta_Add.f l1 l0).bind fun t191 => ((errataref28_Equal.f kj4 t187 t191).bind fun t194 => (if t194 = true then ((delta_Add.f t187 l2).bind fun t195 => ((delta_Add.f l1 l2).bind fun t198 => ((delta_Add.f l0 t198).bind fun t201 => ((errataref28_Equal.f kj4 t195 t201).bind fun t204 => (if t204 = true then ((delta_Sub.f t187 l1).bind fun t205 => ((delta_Consolidate.f l0).bind fun t208 => ((errataref28_Equal.f kj4 t205 t208).bind fun t211 => (if t211 = true then ((delta_Sub.f l0 l0).bind fun t212 => (erratalaw28_DeltaGroup.j1 kj4 l0 l1 t183 t187 ((t212.length : Int) == 0))) else (erratalaw28_DeltaGroup.j1 kj4 l0 l1 t183 t187 false))))) else (erratalaw28_DeltaGroup.j1 kj4 l0 l1 t183 t187 false)))))) else (erratalaw28_DeltaGroup.j1 kj4 l0 l1 t183 t187 false)))) = some r := by rw [if_pos rfl] at H; exact H
            clear H
            have H := H1
            clear H1
            replace H := Option.bind_eq_some_iff.mp H
            obtain ⟨t191, A240, H⟩ := H
            replace H : ((errataref28_Equal.f kj4 t187 t191).bind fun t194 => (if t194 = true then ((delta_Add.f t187 l2).bind fun t195 => ((delta_Add.f l1 l2).bind fun t198 => ((delta_Add.f l0 t198).bind fun t201 => ((errataref28_Equal.f kj4 t195 t201).bind fun t204 => (if t204 = true then ((delta_Sub.f t187 l1).bind fun t205 => ((delta_Consolidate.f l0).bind fun t208 => ((errataref28_Equal.f kj4 t205 t208).bind fun t211 => (if t211 = true then ((delta_Sub.f l0 l0).bind fun t212 => (erratalaw28_DeltaGroup.j1 kj4 l0 l1 t183 t187 ((t212.length : Int) == 0))) else (erratalaw28_DeltaGroup.j1 kj4 l0 l1 t183 t187 false))))) else (erratalaw28_DeltaGroup.j1 kj4 l0 l1 t183 t187 false)))))) else (erratalaw28_DeltaGroup.j1 kj4 l0 l1 t183 t187 false))) = some r := H
            have A24 := Aside0.mk A240
            clear A240
            replace H := Option.bind_eq_some_iff.mp H
            obtain ⟨t194, A250, H⟩ := H
            replace H : (if t194 = true then ((delta_Add.f t187 l2).bind fun t195 => ((delta_Add.f l1 l2).bind fun t198 => ((delta_Add.f l0 t198).bind fun t201 => ((errataref28_Equal.f kj4 t195 t201).bind fun t204 => (if t204 = true then ((delta_Sub.f t187 l1).bind fun t205 => ((delta_Consolidate.f l0).bind fun t208 => ((errataref28_Equal.f kj4 t205 t208).bind fun t211 => (if t211 = true then ((delta_Sub.f l0 l0).bind fun t212 => (erratalaw28_DeltaGroup.j1 kj4 l0 l1 t183 t187 ((t212.length : Int) == 0))) else (erratalaw28_DeltaGroup.j1 kj4 l0 l1 t183 t187 false))))) else (erratalaw28_DeltaGroup.j1 kj4 l0 l1 t183 t187 false)))))) else (erratalaw28_DeltaGroup.j1 kj4 l0 l1 t183 t187 false)) = some r := H
            have A25 := Aside0.mk A250
            clear A250
            by_cases c26 : t194 = true
            · subst c26
              have H1 : ((delta_Add.f t187 l2).bind fun t195 => ((delta_Add.f l1 l2).bind fun t198 => ((delta_Add.f l0 t198).bind fun t201 => ((errataref28_Equal.f kj4 t195 t201).bind fun t204 => (if t204 = true then ((delta_Sub.f t187 l1).bind fun t205 => ((delta_Consolidate.f l0).bind fun t208 => ((errataref28_Equal.f kj4 t205 t208).bind fun t211 => (if t211 = true then ((delta_Sub.f l0 l0).bind fun t212 => (erratalaw28_DeltaGroup.j1 kj4 l0 l1 t183 t187 ((t212.length : Int) == 0))) else (erratalaw28_DeltaGroup.j1 kj4 l0 l1 t183 t187 false))))) else (erratalaw28_DeltaGroup.j1 kj4 l0 l1 t183 t187 false)))))) = some r := by rw [if_pos rfl] at H; exact H
              clear H
              have H := H1
              clear H1
              replace H := Option.bind_eq_some_iff.mp H
              obtain ⟨t195, A270, H⟩ := H
              replace H : ((delta_Add.f l1 l2).bind fun t198 => ((delta_Add.f l0 t198).bind fun t201 => ((errataref28_Equal.f kj4 t195 t201).bind fun t204 => (if t204 = true then ((delta_Sub.f t187 l1).bind fun t205 => ((delta_Consolidate.f l0).bind fun t208 => ((errataref28_Equal.f kj4 t205 t208).bind fun t211 => (if t211 = true then ((delta_Sub.f l0 l0).bind fun t212 => (erratalaw28_DeltaGroup.j1 kj4 l0 l1 t183 t187 ((t212.length : Int) == 0))) else (erratalaw28_DeltaGroup.j1 kj4 l0 l1 t183 t187 false))))) else (erratalaw28_DeltaGroup.j1 kj4 l0 l1 t183 t187 false))))) = some r := H
              have A27 := Aside0.mk A270
              clear A270
              replace H := Option.bind_eq_some_iff.mp H
              obtain ⟨t198, A280, H⟩ := H
              replace H : ((delta_Add.f l0 t198).bind fun t201 => ((errataref28_Equal.f kj4 t195 t201).bind fun t204 => (if t204 = true then ((delta_Sub.f t187 l1).bind fun t205 => ((delta_Consolidate.f l0).bind fun t208 => ((errataref28_Equal.f kj4 t205 t208).bind fun t211 => (if t211 = true then ((delta_Sub.f l0 l0).bind fun t212 => (erratalaw28_DeltaGroup.j1 kj4 l0 l1 t183 t187 ((t212.length : Int) == 0))) else (erratalaw28_DeltaGroup.j1 kj4 l0 l1 t183 t187 false))))) else (erratalaw28_DeltaGroup.j1 kj4 l0 l1 t183 t187 false)))) = some r := H
              have A28 := Aside0.mk A280
              clear A280
              replace H := Option.bind_eq_some_iff.mp H
              obtain ⟨t201, A290, H⟩ := H
              replace H : ((errataref28_Equal.f kj4 t195 t201).bind fun t204 => (if t204 = true then ((delta_Sub.f t187 l1).bind fun t205 => ((delta_Consolidate.f l0).bind fun t208 => ((errataref28_Equal.f kj4 t205 t208).bind fun t211 => (if t211 = true then ((delta_Sub.f l0 l0).bind fun t212 => (erratalaw28_DeltaGroup.j1 kj4 l0 l1 t183 t187 ((t212.length : Int) == 0))) else (erratalaw28_DeltaGroup.j1 kj4 l0 l1 t183 t187 false))))) else (erratalaw28_DeltaGroup.j1 kj4 l0 l1 t183 t187 false))) = some r := H
              have A29 := Aside0.mk A290
              clear A290
              replace H := Option.bind_eq_some_iff.mp H
              obtain ⟨t204, A300, H⟩ := H
              replace H : (if t204 = true then ((delta_Sub.f t187 l1).bind fun t205 => ((delta_Consolidate.f l0).bind fun t208 => ((errataref28_Equal.f kj4 t205 t208).bind fun t211 => (if t211 = true then ((delta_Sub.f l0 l0).bind fun t212 => (erratalaw28_DeltaGroup.j1 kj4 l0 l1 t183 t187 ((t212.length : Int) == 0))) else (erratalaw28_DeltaGroup.j1 kj4 l0 l1 t183 t187 false))))) else (erratalaw28_DeltaGroup.j1 kj4 l0 l1 t183 t187 false)) = some r := H
              have A30 := Aside0.mk A300
              clear A300
              by_cases c31 : t204 = true
              · subst c31
                have H1 : ((delta_Sub.f t187 l1).bind fun t205 => ((delta_Consolidate.f l0).bind fun t208 => ((errataref28_Equal.f kj4 t205 t208).bind fun t211 => (if t211 = true then ((delta_Sub.f l0 l0).bind fun t212 => (erratalaw28_DeltaGroup.j1 kj4 l0 l1 t183 t187 ((t212.length : Int) == 0))) else (erratalaw28_DeltaGroup.j1 kj4 l0 l1 t183 t187 false))))) = some r := by rw [if_pos rfl] at H; exact H
                clear H
                have H := H1
                clear H1
                replace H := Option.bind_eq_some_iff.mp H
                obtain ⟨t205, A320, H⟩ := H
                replace H : ((delta_Consolidate.f l0).bind fun t208 => ((errataref28_Equal.f kj4 t205 t208).bind fun t211 => (if t211 = true then ((delta_Sub.f l0 l0).bind fun t212 => (erratalaw28_DeltaGroup.j1 kj4 l0 l1 t183 t187 ((t212.length : Int) == 0))) else (erratalaw28_DeltaGroup.j1 kj4 l0 l1 t183 t187 false)))) = some r := H
                have A32 := Aside0.mk A320
                clear A320
                replace H := Option.bind_eq_some_iff.mp H
                obtain ⟨t208, A330, H⟩ := H
                replace H : ((errataref28_Equal.f kj4 t205 t208).bind fun t211 => (if t211 = true then ((delta_Sub.f l0 l0).bind fun t212 => (erratalaw28_DeltaGroup.j1 kj4 l0 l1 t183 t187 ((t212.length : Int) == 0))) else (erratalaw28_DeltaGroup.j1 kj4 l0 l1 t183 t187 false))) = some r := H
                have A33 := Aside0.mk A330
                clear A330
                replace H := Option.bind_eq_some_iff.mp H
                obtain ⟨t211, A340, H⟩ := H
                replace H : (if t211 = true then ((delta_Sub.f l0 l0).bind fun t212 => (erratalaw28_DeltaGroup.j1 kj4 l0 l1 t183 t187 ((t212.length : Int) == 0))) else (erratalaw28_DeltaGroup.j1 kj4 l0 l1 t183 t187 false)) = some r := H
                have A34 := Aside0.mk A340
                clear A340
                by_cases c35 : t211 = true
                · subst c35
                  have H1 : ((delta_Sub.f l0 l0).bind fun t212 => (erratalaw28_DeltaGroup.j1 kj4 l0 l1 t183 t187 ((t212.length : Int) == 0))) = some r := by rw [if_pos rfl] at H; exact H
                  clear H
                  have H := H1
                  clear H1
                  replace H := Option.bind_eq_some_iff.mp H
                  obtain ⟨t212, A360, H⟩ := H
                  replace H : (erratalaw28_DeltaGroup.j1 kj4 l0 l1 t183 t187 ((t212.length : Int) == 0)) = some r := H
                  have A36 := Aside0.mk A360
                  clear A360
                  have H' := Aside0.mk H
                  clear H
                  obtain ⟨Ao37, co37, eo37⟩ := Kd.V_slice HO189.out
                  subst eo37
                  go_wp2_with (first | ((with_reducible refine gate_callee (f := 14) rfl ?_); refine goesL_ (some 30) rfl rfl Tryd.func14 (by kernel_rfl) rfl #[.slice Ao37 t187.length co37] rfl Cmp.au ?_; (with_reducible refine (delta_Consolidated.calls kj4 _ _ t187 true _ ?side1 ?side2 A22.out).mono ?_); (case side1 => repeat (first | exact (Kd.V_reads' HO189.out).2.2 | (with_reducible refine Kd.C_alloc ?_ _) | (with_reducible refine Kd.C_drewN ?_ _) | (with_reducible refine Kd.C_drew ?_))); (case side2 => exact (Kd.V_reads' HO189.out).2.1); rintro e w38 ⟨rfl, hb⟩; refine ⟨_, rfl, ?_⟩; have n0_ := Aside0.mk (Cmp.vb hb HO189.out); have n1_ := Aside0.mk (below_step (Cmp.bq HB.out) hb); clear HO189; clear HB; have HO189 := n0_; have HB := n1_; clear n0_ n1_; (try clear hb); (try clear hb2); (try clear hk); (try clear hi)) | (go_at_call 16; (with_reducible refine (delta_Add.calls _ _ l1 _ _ l0 t191 _ ?side1 ?side2 ?side3 ?side4 A24.out).mono ?_); (case side1 => exact Cmp.cb (Kd.C_below HR1.out HB.out)); (case side2 => exact HC1.out); (case side3 => exact Cmp.cb (Kd.C_below HR0.out HB.out)); (case side4 => exact HC0.out); rintro e w39 ⟨v192, rfl, ho0, hb⟩; have n0_ := Aside0.mk (Cmp.vb hb HO189.out); have n1_ := Aside0.mk (Kd.V_lower (Kd.V_mono (ok' := fun k_ => True) ho0 (fun k_ hk_ => trivial)) (below_size (Cmp.bq HB.out))); have n2_ := Aside0.mk (below_step (Cmp.bq HB.out) hb); clear HO189; clear HB; have HO189 := n0_; have HO193 := n1_; have HB := n2_; clear n0_ n1_ n2_; (try clear hb); (try clear hb2); (try clear hk); (try clear hi); (try clear ho0); obtain ⟨Ao40, co40, eo40⟩ := Kd.V_slice HO193.out; subst eo40) | (go_at_call 15; (with_reducible refine (errataref28_Equal.calls kj4 _ _ t187 _ _ t191 true _ ?side1 ?side2 ?side3 ?side4 A25.out).mono ?_); (case side1 => repeat (first | exact (Kd.V_reads' HO189.out).2.2 | (with_reducible refine Kd.C_alloc ?_ _) | (with_reducible refine Kd.C_drewN ?_ _) | (with_reducible refine Kd.C_drew ?_))); (case side2 => exact (Kd.V_reads' HO189.out).2.1); (case side3 => repeat (first | exact (Kd.V_reads' HO193.out).2.2 | (with_reducible refine Kd.C_alloc ?_ _) | (with_reducible refine Kd.C_drewN ?_ _) | (with_reducible refine Kd.C_drew ?_))); (case side4 => exact (Kd.V_reads' HO193.out).2.1); rintro e w41 ⟨rfl, hb⟩; have n0_ := Aside0.mk (Cmp.vb hb HO189.out); have n1_ := Aside0.mk (Cmp.vb hb HO193.out); have n2_ := Aside0.mk (below_step (Cmp.bq HB.out) hb); clear HO189; clear HO193; clear HB; have HO189 := n0_; have HO193 := n1_; have HB := n2_; clear n0_ n1_ n2_; (try clear hb); (try clear hb2); (try clear hk); (try clear hi)) | (go_at_call 16; (with_reducible refine (delta_Add.calls _ _ t187 _ _ l2 t195 _ ?side1 ?side2 ?side3 ?side4 A27.out).mono ?_); (case side1 => repeat (first | exact (Kd.V_reads' HO189.out).2.2 | (with_reducible refine Kd.C_alloc ?_ _) | (with_reducible refine Kd.C_drewN ?_ _) | (with_reducible refine Kd.C_drew ?_))); (case side2 => exact (Kd.V_reads' HO189.out).2.1); (case side3 => exact Cmp.cb (Kd.C_below HR2.out HB.out)); (case side4 => exact HC2.out); rintro e w42 ⟨v196, rfl, ho0, hb⟩; have n0_ := Aside0.mk (Cmp.vb hb HO189.out); have n1_ := Aside0.mk (Cmp.vb hb HO193.out); have n2_ := Aside0.mk (Kd.V_lower (Kd.V_mono (ok' := fun k_ => True) ho0 (fun k_ hk_ => trivial)) (below_size (Cmp.bq HB.out))); have n3_ := Aside0.mk (below_step (Cmp.bq HB.out) hb); clear HO189; clear HO193; clear HB; have HO189 := n0_; have HO193 := n1_; have HO197 := n2_; have HB := n3_; clear n0_ n1_ n2_ n3_; (try clear hb); (try clear hb2); (try clear hk); (try clear hi); (try clear ho0)) | (go_at_call 16; (with_reducible refine (delta_Add.calls _ _ l1 _ _ l2 t198 _ ?side1 ?side2 ?side3 ?side4 A28.out).mono ?_); (case side1 => exact Cmp.cb (Kd.C_below HR1.out HB.out)); (case side2 => exact HC1.out); (case side3 => exact Cmp.cb (Kd.C_below HR2.out HB.out)); (case side4 => exact HC2.out); rintro e w43 ⟨v199, rfl, ho0, hb⟩; have n0_ := Aside0.mk (Cmp.vb hb HO189.out); have n1_ := Aside0.mk (Cmp.vb hb HO193.out); have n2_ := Aside0.mk (Cmp.vb hb HO197.out); have n3_ := Aside0.mk (Kd.V_lower (Kd.V_mono (ok' := fun k_ => True) ho0 (fun k_ hk_ => trivial)) (below_size (Cmp.bq HB.out))); have n4_ := Aside0.mk (below_step (Cmp.bq HB.out) hb); clear HO189; clear HO193; clear HO197; clear HB; have HO189 := n0_; have HO193 := n1_; have HO197 := n2_; have HO200 := n3_; have HB := n4_; clear n0_ n1_ n2_ n3_ n4_; (try clear hb); (try clear hb2); (try clear hk); (try clear hi); (try clear ho0); obtain ⟨Ao44, co44, eo44⟩ := Kd.V_slice HO200.out; subst eo44) | (go_at_call 16; (with_reducible refine (delta_Add.calls _ _ l0 _ _ t198 t201 _ ?side1 ?side2 ?side3 ?side4 A29.out).mono ?_); (case side1 => exact Cmp.cb (Kd.C_below HR0.out HB.out)); (case side2 => exact HC0.out); (case side3 => repeat (first | exact (Kd.V_reads' HO200.out).2.2 | (with_reducible refine Kd.C_alloc ?_ _) | (with_reducible refine Kd.C_drewN ?_ _) | (with_reducible refine Kd.C_drew ?_))); (case side4 => exact (Kd.V_reads' HO200.out).2.1); rintro e w45 ⟨v202, rfl, ho0, hb⟩; have n0_ := Aside0.mk (Cmp.vb hb HO189.out); have n1_ := Aside0.mk (Cmp.vb hb HO193.out); have n2_ := Aside0.mk (Cmp.vb hb HO197.out); have n3_ := Aside0.mk (Cmp.vb hb HO200.out); have n4_ := Aside0.mk (Kd.V_lower (Kd.V_mono (ok' := fun k_ => True) ho0 (fun k_ hk_ => trivial)) (below_size (Cmp.bq HB.out))); have n5_ := Aside0.mk (below_step (Cmp.bq HB.out) hb); clear HO189; clear HO193; clear HO197; clear HO200; clear HB; have HO189 := n0_; have HO193 := n1_; have HO197 := n2_; have HO200 := n3_; have HO203 := n4_; have HB := n5_; clear n0_ n1_ n2_ n3_ n4_ n5_; (try clear hb); (try clear hb2); (try clear hk); (try clear hi); (try clear ho0); obtain ⟨Ao46, co46, eo46⟩ := Kd.V_slice HO197.out; subst eo46; obtain ⟨Ao47, co47, eo47⟩ := Kd.V_slice HO203.out; subst eo47) | (go_at_call 15; (with_reducible refine (errataref28_Equal.calls kj4 _ _ t195 _ _ t201 true _ ?side1 ?side2 ?side3 ?side4 A30.out).mono ?_); (case side1 => repeat (first | exact (Kd.V_reads' HO197.out).2.2 | (with_reducible refine Kd.C_alloc ?_ _) | (with_reducible refine Kd.C_drewN ?_ _) | (with_reducible refine Kd.C_drew ?_))); (case side2 => exact (Kd.V_reads' HO197.out).2.1); (case side3 => repeat (first | exact (Kd.V_reads' HO203.out).2.2 | (with_reducible refine Kd.C_alloc ?_ _) | (with_reducible refine Kd.C_drewN ?_ _) | (with_reducible refine Kd.C_drew ?_))); (case side4 => exact (Kd.V_reads' HO203.out).2.1); rintro e w48 ⟨rfl, hb⟩; have n0_ := Aside0.mk (Cmp.vb hb HO189.out); have n1_ := Aside0.mk (Cmp.vb hb HO193.out); have n2_ := Aside0.mk (Cmp.vb hb HO197.out); have n3_ := Aside0.mk (Cmp.vb hb HO200.out); have n4_ := Aside0.mk (Cmp.vb hb HO203.out); have n5_ := Aside0.mk (below_step (Cmp.bq HB.out) hb); clear HO189; clear HO193; clear HO197; clear HO200; clear HO203; clear HB; have HO189 := n0_; have HO193 := n1_; have HO197 := n2_; have HO200 := n3_; have HO203 := n4_; have HB := n5_; clear n0_ n1_ n2_ n3_ n4_ n5_; (try clear hb); (try clear hb2); (try clear hk); (try clear hi)) | (go_at_call 18; (with_reducible refine (delta_Sub.calls _ _ t187 _ _ l1 t205 _ ?side1 ?side2 ?side3 ?side4 A32.out).mono ?_); (case side1 => repeat (first | exact (Kd.V_reads' HO189.out).2.2 | (with_reducible refine Kd.C_alloc ?_ _) | (with_reducible refine Kd.C_drewN ?_ _) | (with_reducible refine Kd.C_drew ?_))); (case side2 => exact (Kd.V_reads' HO189.out).2.1); (case side3 => exact Cmp.cb (Kd.C_below HR1.out HB.out)); (case side4 => exact HC1.out); rintro e w49 ⟨v206, rfl, ho0, hb⟩; have n0_ := Aside0.mk (Cmp.vb hb HO189.out); have n1_ := Aside0.mk (Cmp.vb hb HO193.out); have n2_ := Aside0.mk (Cmp.vb hb HO197.out); have n3_ := Aside0.mk (Cmp.vb hb HO200.out); have n4_ := Aside0.mk (Cmp.vb hb HO203.out); have n5_ := Aside0.mk (Kd.V_lower (Kd.V_mono (ok' := fun k_ => True) ho0 (fun k_ hk_ => trivial)) (below_size (Cmp.bq HB.out))); have n6_ := Aside0.mk (below_step (Cmp.bq HB.out) hb); clear HO189; clear HO193; clear HO197; clear HO200; clear HO203; clear HB; have HO189 := n0_; have HO193 := n1_; have HO197 := n2_; have HO200 := n3_; have HO203 := n4_; have HO207 := n5_; have HB := n6_; clear n0_ n1_ n2_ n3_ n4_ n5_ n6_; (try clear hb); (try clear hb2); (try clear hk); (try clear hi); (try clear ho0)) | (go_at_call 17; (with_reducible refine (delta_Consolidate.calls _ _ l0 t208 _ ?side1 ?side2 A33.out).mono ?_); (case side1 => exact Cmp.cb (Kd.C_below HR0.out HB.out)); (case side2 => exact HC0.out); rintro e w50 ⟨v209, rfl, ho0, hb⟩; have n0_ := Aside0.mk (Cmp.vb hb HO189.out); have n1_ := Aside0.mk (Cmp.vb hb HO193.out); have n2_ := Aside0.mk (Cmp.vb hb HO197.out); have n3_ := Aside0.mk (Cmp.vb hb HO200.out); have n4_ := Aside0.mk (Cmp.vb hb HO203.out); have n5_ := Aside0.mk (Cmp.vb hb HO207.out); have n6_ := Aside0.mk (Kd.V_lower (Kd.V_mono (ok' := fun k_ => True) ho0 (fun k_ hk_ => trivial)) (below_size (Cmp.bq HB.out))); have n7_ := Aside0.mk (below_step (Cmp.bq HB.out) hb); clear HO189; clear HO193; clear HO197; clear HO200; clear HO203; clear HO207; clear HB; have HO189 := n0_; have HO193 := n1_; have HO197 := n2_; have HO200 := n3_; have HO203 := n4_; have HO207 := n5_; have HO210 := n6_; have HB := n7_; clear n0_ n1_ n2_ n3_ n4_ n5_ n6_ n7_; (try clear hb); (try clear hb2); (try clear hk); (try clear hi); (try clear ho0); obtain ⟨Ao51, co51, eo51⟩ := Kd.V_slice HO207.out; subst eo51; obtain ⟨Ao52, co52, eo52⟩ := Kd.V_slice HO210.out; subst eo52) | (go_at_call 15; (with_reducible refine (errataref28_Equal.calls kj4 _ _ t205 _ _ t208 true _ ?side1 ?side2 ?side3 ?side4 A34.out).mono ?_); (case side1 => repeat (first | exact (Kd.V_reads' HO207.out).2.2 | (with_reducible refine Kd.C_alloc ?_ _) | (with_reducible refine Kd.C_drewN ?_ _) | (with_reducible refine Kd.C_drew ?_))); (case side2 => exact (Kd.V_reads' HO207.out).2.1); (case side3 => repeat (first | exact (Kd.V_reads' HO210.out).2.2 | (with_reducible refine Kd.C_alloc ?_ _) | (with_reducible refine Kd.C_drewN ?_ _) | (with_reducible refine Kd.C_drew ?_))); (case side4 => exact (Kd.V_reads' HO210.out).2.1); rintro e w53 ⟨rfl, hb⟩; have n0_ := Aside0.mk (Cmp.vb hb HO189.out); have n1_ := Aside0.mk (Cmp.vb hb HO193.out); have n2_ := Aside0.mk (Cmp.vb hb HO197.out); have n3_ := Aside0.mk (Cmp.vb hb HO200.out); have n4_ := Aside0.mk (Cmp.vb hb HO203.out); have n5_ := Aside0.mk (Cmp.vb hb HO207.out); have n6_ := Aside0.mk (Cmp.vb hb HO210.out); have n7_ := Aside0.mk (below_step (Cmp.bq HB.out) hb); clear HO189; clear HO193; clear HO197; clear HO200; clear HO203; clear HO207; clear HO210; clear HB; have HO189 := n0_; have HO193 := n1_; have HO197 := n2_; have HO200 := n3_; have HO203 := n4_; have HO207 := n5_; have HO210 := n6_; have HB := n7_; clear n0_ n1_ n2_ n3_ n4_ n5_ n6_ n7_; (try clear hb); (try clear hb2); (try clear hk); (try clear hi)) | (go_at_call 18; (with_reducible refine (delta_Sub.calls _ _ l0 _ _ l0 t212 _ ?side1 ?side2 ?side3 ?side4 A36.out).mono ?_); (case side1 => exact Cmp.cb (Kd.C_below HR0.out HB.out)); (case side2 => exact HC0.out); (case side3 => exact Cmp.cb (Kd.C_below HR0.out HB.out)); (case side4 => exact HC0.out); rintro e w54 ⟨v213, rfl, ho0, hb⟩; have n0_ := Aside0.mk (Cmp.vb hb HO189.out); have n1_ := Aside0.mk (Cmp.vb hb HO193.out); have n2_ := Aside0.mk (Cmp.vb hb HO197.out); have n3_ := Aside0.mk (Cmp.vb hb HO200.out); have n4_ := Aside0.mk (Cmp.vb hb HO203.out); have n5_ := Aside0.mk (Cmp.vb hb HO207.out); have n6_ := Aside0.mk (Cmp.vb hb HO210.out); have n7_ := Aside0.mk (Kd.V_lower (Kd.V_mono (ok' := fun k_ => True) ho0 (fun k_ hk_ => trivial)) (below_size (Cmp.bq HB.out))); have n8_ := Aside0.mk (below_step (Cmp.bq HB.out) hb); clear HO189; clear HO193; clear HO197; clear HO200; clear HO203; clear HO207; clear HO210; clear HB; have HO189 := n0_; have HO193 := n1_; have HO197 := n2_; have HO200 := n3_; have HO203 := n4_; have HO207 := n5_; have HO210 := n6_; have HO214 := n7_; have HB := n8_; clear n0_ n1_ n2_ n3_ n4_ n5_ n6_ n7_ n8_; (try clear hb); (try clear hb2); (try clear hk); (try clear hi); (try clear ho0); obtain ⟨Ao55, co55, eo55⟩ := Kd.V_slice HO214.out; subst eo55))
                  go_meet
                  case rel => exact ⟨_, (((t212.length : Int) == 0)), (by first | rfl | (simp; done) | (simp [*]; done)), H', ⟨by have := HJ4.out; first | omega | exact Nat.le_refl _⟩, ⟨by (with_reducible repeat (first | apply Kd.V_alloc | apply Kd.V_drewN | apply Kd.V_drew)); exact HO189.out⟩, ⟨by repeat (first | (with_reducible first | exact HB.out | apply below_alloc | apply pw_below_drewN | apply below_drew1) | exact HB.out)⟩⟩
                · replace c35 := Bool.eq_false_iff.mpr c35
                  subst c35
                  have H1 : (erratalaw28_DeltaGroup.j1 kj4 l0 l1 t183 t187 false) = some r := by rw [if_neg (show ¬ (false = true) by decide)] at H; exact H
                  clear H
                  have H := H1
                  clear H1
                  have H' := Aside0.mk H
                  clear H
                  obtain ⟨Ao56, co56, eo56⟩ := Kd.V_slice HO189.out
                  subst eo56
                  go_wp2_with (first | ((with_reducible refine gate_callee (f := 14) rfl ?_); refine goesL_ (some 30) rfl rfl Tryd.func14 (by kernel_rfl) rfl #[.slice Ao56 t187.length co56] rfl Cmp.au ?_; (with_reducible refine (delta_Consolidated.calls kj4 _ _ t187 true _ ?side1 ?side2 A22.out).mono ?_); (case side1 => repeat (first | exact (Kd.V_reads' HO189.out).2.2 | (with_reducible refine Kd.C_alloc ?_ _) | (with_reducible refine Kd.C_drewN ?_ _) | (with_reducible refine Kd.C_drew ?_))); (case side2 => exact (Kd.V_reads' HO189.out).2.1); rintro e w57 ⟨rfl, hb⟩; refine ⟨_, rfl, ?_⟩; have n0_ := Aside0.mk (Cmp.vb hb HO189.out); have n1_ := Aside0.mk (below_step (Cmp.bq HB.out) hb); clear HO189; clear HB; have HO189 := n0_; have HB := n1_; clear n0_ n1_; (try clear hb); (try clear hb2); (try clear hk); (try clear hi)) | (go_at_call 16; (with_reducible refine (delta_Add.calls _ _ l1 _ _ l0 t191 _ ?side1 ?side2 ?side3 ?side4 A24.out).mono ?_); (case side1 => exact Cmp.cb (Kd.C_below HR1.out HB.out)); (case side2 => exact HC1.out); (case side3 => exact Cmp.cb (Kd.C_below HR0.out HB.out)); (case side4 => exact HC0.out); rintro e w58 ⟨v192, rfl, ho0, hb⟩; have n0_ := Aside0.mk (Cmp.vb hb HO189.out); have n1_ := Aside0.mk (Kd.V_lower (Kd.V_mono (ok' := fun k_ => True) ho0 (fun k_ hk_ => trivial)) (below_size (Cmp.bq HB.out))); have n2_ := Aside0.mk (below_step (Cmp.bq HB.out) hb); clear HO189; clear HB; have HO189 := n0_; have HO193 := n1_; have HB := n2_; clear n0_ n1_ n2_; (try clear hb); (try clear hb2); (try clear hk); (try clear hi); (try clear ho0); obtain ⟨Ao59, co59, eo59⟩ := Kd.V_slice HO193.out; subst eo59) | (go_at_call 15; (with_reducible refine (errataref28_Equal.calls kj4 _ _ t187 _ _ t191 true _ ?side1 ?side2 ?side3 ?side4 A25.out).mono ?_); (case side1 => repeat (first | exact (Kd.V_reads' HO189.out).2.2 | (with_reducible refine Kd.C_alloc ?_ _) | (with_reducible refine Kd.C_drewN ?_ _) | (with_reducible refine Kd.C_drew ?_))); (case side2 => exact (Kd.V_reads' HO189.out).2.1); (case side3 => repeat (first | exact (Kd.V_reads' HO193.out).2.2 | (with_reducible refine Kd.C_alloc ?_ _) | (with_reducible refine Kd.C_drewN ?_ _) | (with_reducible refine Kd.C_drew ?_))); (case side4 => exact (Kd.V_reads' HO193.out).2.1); rintro e w60 ⟨rfl, hb⟩; have n0_ := Aside0.mk (Cmp.vb hb HO189.out); have n1_ := Aside0.mk (Cmp.vb hb HO193.out); have n2_ := Aside0.mk (below_step (Cmp.bq HB.out) hb); clear HO189; clear HO193; clear HB; have HO189 := n0_; have HO193 := n1_; have HB := n2_; clear n0_ n1_ n2_; (try clear hb); (try clear hb2); (try clear hk); (try clear hi)) | (go_at_call 16; (with_reducible refine (delta_Add.calls _ _ t187 _ _ l2 t195 _ ?side1 ?side2 ?side3 ?side4 A27.out).mono ?_); (case side1 => repeat (first | exact (Kd.V_reads' HO189.out).2.2 | (with_reducible refine Kd.C_alloc ?_ _) | (with_reducible refine Kd.C_drewN ?_ _) | (with_reducible refine Kd.C_drew ?_))); (case side2 => exact (Kd.V_reads' HO189.out).2.1); (case side3 => exact Cmp.cb (Kd.C_below HR2.out HB.out)); (case side4 => exact HC2.out); rintro e w61 ⟨v196, rfl, ho0, hb⟩; have n0_ := Aside0.mk (Cmp.vb hb HO189.out); have n1_ := Aside0.mk (Cmp.vb hb HO193.out); have n2_ := Aside0.mk (Kd.V_lower (Kd.V_mono (ok' := fun k_ => True) ho0 (fun k_ hk_ => trivial)) (below_size (Cmp.bq HB.out))); have n3_ := Aside0.mk (below_step (Cmp.bq HB.out) hb); clear HO189; clear HO193; clear HB; have HO189 := n0_; have HO193 := n1_; have HO197 := n2_; have HB := n3_; clear n0_ n1_ n2_ n3_; (try clear hb); (try clear hb2); (try clear hk); (try clear hi); (try clear ho0)) | (go_at_call 16; (with_reducible refine (delta_Add.calls _ _ l1 _ _ l2 t198 _ ?side1 ?side2 ?side3 ?side4 A28.out).mono ?_); (case side1 => exact Cmp.cb (Kd.C_below HR1.out HB.out)); (case side2 => exact HC1.out); (case side3 => exact Cmp.cb (Kd.C_below HR2.out HB.out)); (case side4 => exact HC2.out); rintro e w62 ⟨v199, rfl, ho0, hb⟩; have n0_ := Aside0.mk (Cmp.vb hb HO189.out); have n1_ := Aside0.mk (Cmp.vb hb HO193.out); have n2_ := Aside0.mk (Cmp.vb hb HO197.out); have n3_ := Aside0.mk (Kd.V_lower (Kd.V_mono (ok' := fun k_ => True) ho0 (fun k_ hk_ => trivial)) (below_size (Cmp.bq HB.out))); have n4_ := Aside0.mk (below_step (Cmp.bq HB.out) hb); clear HO189; clear HO193; clear HO197; clear HB; have HO189 := n0_; have HO193 := n1_; have HO197 := n2_; have HO200 := n3_; have HB := n4_; clear n0_ n1_ n2_ n3_ n4_; (try clear hb); (try clear hb2); (try clear hk); (try clear hi); (try clear ho0); obtain ⟨Ao63, co63, eo63⟩ := Kd.V_slice HO200.out; subst eo63) | (go_at_call 16; (with_reducible refine (delta_Add.calls _ _ l0 _ _ t198 t201 _ ?side1 ?side2 ?side3 ?side4 A29.out).mono ?_); (case side1 => exact Cmp.cb (Kd.C_below HR0.out HB.out)); (case side2 => exact HC0.out); (case side3 => repeat (first | exact (Kd.V_reads' HO200.out).2.2 | (with_reducible refine Kd.C_alloc ?_ _) | (with_reducible refine Kd.C_drewN ?_ _) | (with_reducible refine Kd.C_drew ?_))); (case side4 => exact (Kd.V_reads' HO200.out).2.1); rintro e w64 ⟨v202, rfl, ho0, hb⟩; have n0_ := Aside0.mk (Cmp.vb hb HO189.out); have n1_ := Aside0.mk (Cmp.vb hb HO193.out); have n2_ := Aside0.mk (Cmp.vb hb HO197.out); have n3_ := Aside0.mk (Cmp.vb hb HO200.out); have n4_ := Aside0.mk (Kd.V_lower (Kd.V_mono (ok' := fun k_ => True) ho0 (fun k_ hk_ => trivial)) (below_size (Cmp.bq HB.out))); have n5_ := Aside0.mk (below_step (Cmp.bq HB.out) hb); clear HO189; clear HO193; clear HO197; clear HO200; clear HB; have HO189 := n0_; have HO193 := n1_; have HO197 := n2_; have HO200 := n3_; have HO203 := n4_; have HB := n5_; clear n0_ n1_ n2_ n3_ n4_ n5_; (try clear hb); (try clear hb2); (try clear hk); (try clear hi); (try clear ho0); obtain ⟨Ao65, co65, eo65⟩ := Kd.V_slice HO197.out; subst eo65; obtain ⟨Ao66, co66, eo66⟩ := Kd.V_slice HO203.out; subst eo66) | (go_at_call 15; (with_reducible refine (errataref28_Equal.calls kj4 _ _ t195 _ _ t201 true _ ?side1 ?side2 ?side3 ?side4 A30.out).mono ?_); (case side1 => repeat (first | exact (Kd.V_reads' HO197.out).2.2 | (with_reducible refine Kd.C_alloc ?_ _) | (with_reducible refine Kd.C_drewN ?_ _) | (with_reducible refine Kd.C_drew ?_))); (case side2 => exact (Kd.V_reads' HO197.out).2.1); (case side3 => repeat (first | exact (Kd.V_reads' HO203.out).2.2 | (with_reducible refine Kd.C_alloc ?_ _) | (with_reducible refine Kd.C_drewN ?_ _) | (with_reducible refine Kd.C_drew ?_))); (case side4 => exact (Kd.V_reads' HO203.out).2.1); rintro e w67 ⟨rfl, hb⟩; have n0_ := Aside0.mk (Cmp.vb hb HO189.out); have n1_ := Aside0.mk (Cmp.vb hb HO193.out); have n2_ := Aside0.mk (Cmp.vb hb HO197.out); have n3_ := Aside0.mk (Cmp.vb hb HO200.out); have n4_ := Aside0.mk (Cmp.vb hb HO203.out); have n5_ := Aside0.mk (below_step (Cmp.bq HB.out) hb); clear HO189; clear HO193; clear HO197; clear HO200; clear HO203; clear HB; have HO189 := n0_; have HO193 := n1_; have HO197 := n2_; have HO200 := n3_; have HO203 := n4_; have HB := n5_; clear n0_ n1_ n2_ n3_ n4_ n5_; (try clear hb); (try clear hb2); (try clear hk); (try clear hi)) | (go_at_call 18; (with_reducible refine (delta_Sub.calls _ _ t187 _ _ l1 t205 _ ?side1 ?side2 ?side3 ?side4 A32.out).mono ?_); (case side1 => repeat (first | exact (Kd.V_reads' HO189.out).2.2 | (with_reducible refine Kd.C_alloc ?_ _) | (with_reducible refine Kd.C_drewN ?_ _) | (with_reducible refine Kd.C_drew ?_))); (case side2 => exact (Kd.V_reads' HO189.out).2.1); (case side3 => exact Cmp.cb (Kd.C_below HR1.out HB.out)); (case side4 => exact HC1.out); rintro e w68 ⟨v206, rfl, ho0, hb⟩; have n0_ := Aside0.mk (Cmp.vb hb HO189.out); have n1_ := Aside0.mk (Cmp.vb hb HO193.out); have n2_ := Aside0.mk (Cmp.vb hb HO197.out); have n3_ := Aside0.mk (Cmp.vb hb HO200.out); have n4_ := Aside0.mk (Cmp.vb hb HO203.out); have n5_ := Aside0.mk (Kd.V_lower (Kd.V_mono (ok' := fun k_ => True) ho0 (fun k_ hk_ => trivial)) (below_size (Cmp.bq HB.out))); have n6_ := Aside0.mk (below_step (Cmp.bq HB.out) hb); clear HO189; clear HO193; clear HO197; clear HO200; clear HO203; clear HB; have HO189 := n0_; have HO193 := n1_; have HO197 := n2_; have HO200 := n3_; have HO203 := n4_; have HO207 := n5_; have HB := n6_; clear n0_ n1_ n2_ n3_ n4_ n5_ n6_; (try clear hb); (try clear hb2); (try clear hk); (try clear hi); (try clear ho0)) | (go_at_call 17; (with_reducible refine (delta_Consolidate.calls _ _ l0 t208 _ ?side1 ?side2 A33.out).mono ?_); (case side1 => exact Cmp.cb (Kd.C_below HR0.out HB.out)); (case side2 => exact HC0.out); rintro e w69 ⟨v209, rfl, ho0, hb⟩; have n0_ := Aside0.mk (Cmp.vb hb HO189.out); have n1_ := Aside0.mk (Cmp.vb hb HO193.out); have n2_ := Aside0.mk (Cmp.vb hb HO197.out); have n3_ := Aside0.mk (Cmp.vb hb HO200.out); have n4_ := Aside0.mk (Cmp.vb hb HO203.out); have n5_ := Aside0.mk (Cmp.vb hb HO207.out); have n6_ := Aside0.mk (Kd.V_lower (Kd.V_mono (ok' := fun k_ => True) ho0 (fun k_ hk_ => trivial)) (below_size (Cmp.bq HB.out))); have n7_ := Aside0.mk (below_step (Cmp.bq HB.out) hb); clear HO189; clear HO193; clear HO197; clear HO200; clear HO203; clear HO207; clear HB; have HO189 := n0_; have HO193 := n1_; have HO197 := n2_; have HO200 := n3_; have HO203 := n4_; have HO207 := n5_; have HO210 := n6_; have HB := n7_; clear n0_ n1_ n2_ n3_ n4_ n5_ n6_ n7_; (try clear hb); (try clear hb2); (try clear hk); (try clear hi); (try clear ho0); obtain ⟨Ao70, co70, eo70⟩ := Kd.V_slice HO207.out; subst eo70; obtain ⟨Ao71, co71, eo71⟩ := Kd.V_slice HO210.out; subst eo71) | (go_at_call 15; (with_reducible refine (errataref28_Equal.calls kj4 _ _ t205 _ _ t208 false _ ?side1 ?side2 ?side3 ?side4 A34.out).mono ?_); (case side1 => repeat (first | exact (Kd.V_reads' HO207.out).2.2 | (with_reducible refine Kd.C_alloc ?_ _) | (with_reducible refine Kd.C_drewN ?_ _) | (with_reducible refine Kd.C_drew ?_))); (case side2 => exact (Kd.V_reads' HO207.out).2.1); (case side3 => repeat (first | exact (Kd.V_reads' HO210.out).2.2 | (with_reducible refine Kd.C_alloc ?_ _) | (with_reducible refine Kd.C_drewN ?_ _) | (with_reducible refine Kd.C_drew ?_))); (case side4 => exact (Kd.V_reads' HO210.out).2.1); rintro e w72 ⟨rfl, hb⟩; have n0_ := Aside0.mk (Cmp.vb hb HO189.out); have n1_ := Aside0.mk (Cmp.vb hb HO193.out); have n2_ := Aside0.mk (Cmp.vb hb HO197.out); have n3_ := Aside0.mk (Cmp.vb hb HO200.out); have n4_ := Aside0.mk (Cmp.vb hb HO203.out); have n5_ := Aside0.mk (Cmp.vb hb HO207.out); have n6_ := Aside0.mk (Cmp.vb hb HO210.out); have n7_ := Aside0.mk (below_step (Cmp.bq HB.out) hb); clear HO189; clear HO193; clear HO197; clear HO200; clear HO203; clear HO207; clear HO210; clear HB; have HO189 := n0_; have HO193 := n1_; have HO197 := n2_; have HO200 := n3_; have HO203 := n4_; have HO207 := n5_; have HO210 := n6_; have HB := n7_; clear n0_ n1_ n2_ n3_ n4_ n5_ n6_ n7_; (try clear hb); (try clear hb2); (try clear hk); (try clear hi)))
                  go_meet
                  case rel => exact ⟨_, (false), (by first | rfl | (simp; done) | (simp [*]; done)), H', ⟨by have := HJ4.out; first | omega | exact Nat.le_refl _⟩, ⟨by (with_reducible repeat (first | apply Kd.V_alloc | apply Kd.V_drewN | apply Kd.V_drew)); exact HO189.out⟩, ⟨by repeat (first | (with_reducible first | exact HB.out | apply below_alloc | apply pw_below_drewN | apply below_drew1) | exact HB.out)⟩⟩
              · replace c31 := Bool.eq_false_iff.mpr c31
                subst c31
                have H1 : (erratalaw28_DeltaGroup.j1 kj4 l0 l1 t183 t187 false) = some r := by rw [if_neg (show ¬ (false = true) by decide)] at H; exact H
                clear H
                have H := H1
                clear H1
                have H' := Aside0.mk H
                clear H
                obtain ⟨Ao73, co73, eo73⟩ := Kd.V_slice HO189.out
                subst eo73
                go_wp2_with (first | ((with_reducible refine gate_callee (f := 14) rfl ?_); refine goesL_ (some 30) rfl rfl Tryd.func14 (by kernel_rfl) rfl #[.slice Ao73 t187.length co73] rfl Cmp.au ?_; (with_reducible refine (delta_Consolidated.calls kj4 _ _ t187 true _ ?side1 ?side2 A22.out).mono ?_); (case side1 => repeat (first | exact (Kd.V_reads' HO189.out).2.2 | (with_reducible refine Kd.C_alloc ?_ _) | (with_reducible refine Kd.C_drewN ?_ _) | (with_reducible refine Kd.C_drew ?_))); (case side2 => exact (Kd.V_reads' HO189.out).2.1); rintro e w74 ⟨rfl, hb⟩; refine ⟨_, rfl, ?_⟩; have n0_ := Aside0.mk (Cmp.vb hb HO189.out); have n1_ := Aside0.mk (below_step (Cmp.bq HB.out) hb); clear HO189; clear HB; have HO189 := n0_; have HB := n1_; clear n0_ n1_; (try clear hb); (try clear hb2); (try clear hk); (try clear hi)) | (go_at_call 16; (with_reducible refine (delta_Add.calls _ _ l1 _ _ l0 t191 _ ?side1 ?side2 ?side3 ?side4 A24.out).mono ?_); (case side1 => exact Cmp.cb (Kd.C_below HR1.out HB.out)); (case side2 => exact HC1.out); (case side3 => exact Cmp.cb (Kd.C_below HR0.out HB.out)); (case side4 => exact HC0.out); rintro e w75 ⟨v192, rfl, ho0, hb⟩; have n0_ := Aside0.mk (Cmp.vb hb HO189.out); have n1_ := Aside0.mk (Kd.V_lower (Kd.V_mono (ok' := fun k_ => True) ho0 (fun k_ hk_ => trivial)) (below_size (Cmp.bq HB.out))); have n2_ := Aside0.mk (below_step (Cmp.bq HB.out) hb); clear HO189; clear HB; have HO189 := n0_; have HO193 := n1_; have HB := n2_; clear n0_ n1_ n2_; (try clear hb); (try clear hb2); (try clear hk); (try clear hi); (try clear ho0); obtain ⟨Ao76, co76, eo76⟩ := Kd.V_slice HO193.out; subst eo76) | (go_at_call 15; (with_reducible refine (errataref28_Equal.calls kj4 _ _ t187 _ _ t191 true _ ?side1 ?side2 ?side3 ?side4 A25.out).mono ?_); (case side1 => repeat (first | exact (Kd.V_reads' HO189.out).2.2 | (with_reducible refine Kd.C_alloc ?_ _) | (with_reducible refine Kd.C_drewN ?_ _) | (with_reducible refine Kd.C_drew ?_))); (case side2 => exact (Kd.V_reads' HO189.out).2.1); (case side3 => repeat (first | exact (Kd.V_reads' HO193.out).2.2 | (with_reducible refine Kd.C_alloc ?_ _) | (with_reducible refine Kd.C_drewN ?_ _) | (with_reducible refine Kd.C_drew ?_))); (case side4 => exact (Kd.V_reads' HO193.out).2.1); rintro e w77 ⟨rfl, hb⟩; have n0_ := Aside0.mk (Cmp.vb hb HO189.out); have n1_ := Aside0.mk (Cmp.vb hb HO193.out); have n2_ := Aside0.mk (below_step (Cmp.bq HB.out) hb); clear HO189; clear HO193; clear HB; have HO189 := n0_; have HO193 := n1_; have HB := n2_; clear n0_ n1_ n2_; (try clear hb); (try clear hb2); (try clear hk); (try clear hi)) | (go_at_call 16; (with_reducible refine (delta_Add.calls _ _ t187 _ _ l2 t195 _ ?side1 ?side2 ?side3 ?side4 A27.out).mono ?_); (case side1 => repeat (first | exact (Kd.V_reads' HO189.out).2.2 | (with_reducible refine Kd.C_alloc ?_ _) | (with_reducible refine Kd.C_drewN ?_ _) | (with_reducible refine Kd.C_drew ?_))); (case side2 => exact (Kd.V_reads' HO189.out).2.1); (case side3 => exact Cmp.cb (Kd.C_below HR2.out HB.out)); (case side4 => exact HC2.out); rintro e w78 ⟨v196, rfl, ho0, hb⟩; have n0_ := Aside0.mk (Cmp.vb hb HO189.out); have n1_ := Aside0.mk (Cmp.vb hb HO193.out); have n2_ := Aside0.mk (Kd.V_lower (Kd.V_mono (ok' := fun k_ => True) ho0 (fun k_ hk_ => trivial)) (below_size (Cmp.bq HB.out))); have n3_ := Aside0.mk (below_step (Cmp.bq HB.out) hb); clear HO189; clear HO193; clear HB; have HO189 := n0_; have HO193 := n1_; have HO197 := n2_; have HB := n3_; clear n0_ n1_ n2_ n3_; (try clear hb); (try clear hb2); (try clear hk); (try clear hi); (try clear ho0)) | (go_at_call 16; (with_reducible refine (delta_Add.calls _ _ l1 _ _ l2 t198 _ ?side1 ?side2 ?side3 ?side4 A28.out).mono ?_); (case side1 => exact Cmp.cb (Kd.C_below HR1.out HB.out)); (case side2 => exact HC1.out); (case side3 => exact Cmp.cb (Kd.C_below HR2.out HB.out)); (case side4 => exact HC2.out); rintro e w79 ⟨v199, rfl, ho0, hb⟩; have n0_ := Aside0.mk (Cmp.vb hb HO189.out); have n1_ := Aside0.mk (Cmp.vb hb HO193.out); have n2_ := Aside0.mk (Cmp.vb hb HO197.out); have n3_ := Aside0.mk (Kd.V_lower (Kd.V_mono (ok' := fun k_ => True) ho0 (fun k_ hk_ => trivial)) (below_size (Cmp.bq HB.out))); have n4_ := Aside0.mk (below_step (Cmp.bq HB.out) hb); clear HO189; clear HO193; clear HO197; clear HB; have HO189 := n0_; have HO193 := n1_; have HO197 := n2_; have HO200 := n3_; have HB := n4_; clear n0_ n1_ n2_ n3_ n4_; (try clear hb); (try clear hb2); (try clear hk); (try clear hi); (try clear ho0); obtain ⟨Ao80, co80, eo80⟩ := Kd.V_slice HO200.out; subst eo80) | (go_at_call 16; (with_reducible refine (delta_Add.calls _ _ l0 _ _ t198 t201 _ ?side1 ?side2 ?side3 ?side4 A29.out).mono ?_); (case side1 => exact Cmp.cb (Kd.C_below HR0.out HB.out)); (case side2 => exact HC0.out); (case side3 => repeat (first | exact (Kd.V_reads' HO200.out).2.2 | (with_reducible refine Kd.C_alloc ?_ _) | (with_reducible refine Kd.C_drewN ?_ _) | (with_reducible refine Kd.C_drew ?_))); (case side4 => exact (Kd.V_reads' HO200.out).2.1); rintro e w81 ⟨v202, rfl, ho0, hb⟩; have n0_ := Aside0.mk (Cmp.vb hb HO189.out); have n1_ := Aside0.mk (Cmp.vb hb HO193.out); have n2_ := Aside0.mk (Cmp.vb hb HO197.out); have n3_ := Aside0.mk (Cmp.vb hb HO200.out); have n4_ := Aside0.mk (Kd.V_lower (Kd.V_mono (ok' := fun k_ => True) ho0 (fun k_ hk_ => trivial)) (below_size (Cmp.bq HB.out))); have n5_ := Aside0.mk (below_step (Cmp.bq HB.out) hb); clear HO189; clear HO193; clear HO197; clear HO200; clear HB; have HO189 := n0_; have HO193 := n1_; have HO197 := n2_; have HO200 := n3_; have HO203 := n4_; have HB := n5_; clear n0_ n1_ n2_ n3_ n4_ n5_; (try clear hb); (try clear hb2); (try clear hk); (try clear hi); (try clear ho0); obtain ⟨Ao82, co82, eo82⟩ := Kd.V_slice HO197.out; subst eo82; obtain ⟨Ao83, co83, eo83⟩ := Kd.V_slice HO203.out; subst eo83) | (go_at_call 15; (with_reducible refine (errataref28_Equal.calls kj4 _ _ t195 _ _ t201 false _ ?side1 ?side2 ?side3 ?side4 A30.out).mono ?_); (case side1 => repeat (first | exact (Kd.V_reads' HO197.out).2.2 | (with_reducible refine Kd.C_alloc ?_ _) | (with_reducible refine Kd.C_drewN ?_ _) | (with_reducible refine Kd.C_drew ?_))); (case side2 => exact (Kd.V_reads' HO197.out).2.1); (case side3 => repeat (first | exact (Kd.V_reads' HO203.out).2.2 | (with_reducible refine Kd.C_alloc ?_ _) | (with_reducible refine Kd.C_drewN ?_ _) | (with_reducible refine Kd.C_drew ?_))); (case side4 => exact (Kd.V_reads' HO203.out).2.1); rintro e w84 ⟨rfl, hb⟩; have n0_ := Aside0.mk (Cmp.vb hb HO189.out); have n1_ := Aside0.mk (Cmp.vb hb HO193.out); have n2_ := Aside0.mk (Cmp.vb hb HO197.out); have n3_ := Aside0.mk (Cmp.vb hb HO200.out); have n4_ := Aside0.mk (Cmp.vb hb HO203.out); have n5_ := Aside0.mk (below_step (Cmp.bq HB.out) hb); clear HO189; clear HO193; clear HO197; clear HO200; clear HO203; clear HB; have HO189 := n0_; have HO193 := n1_; have HO197 := n2_; have HO200 := n3_; have HO203 := n4_; have HB := n5_; clear n0_ n1_ n2_ n3_ n4_ n5_; (try clear hb); (try clear hb2); (try clear hk); (try clear hi)))
                go_meet
                case rel => exact ⟨_, (false), (by first | rfl | (simp; done) | (simp [*]; done)), H', ⟨by have := HJ4.out; first | omega | exact Nat.le_refl _⟩, ⟨by (with_reducible repeat (first | apply Kd.V_alloc | apply Kd.V_drewN | apply Kd.V_drew)); exact HO189.out⟩, ⟨by repeat (first | (with_reducible first | exact HB.out | apply below_alloc | apply pw_below_drewN | apply below_drew1) | exact HB.out)⟩⟩
            · replace c26 := Bool.eq_false_iff.mpr c26
              subst c26
              have H1 : (erratalaw28_DeltaGroup.j1 kj4 l0 l1 t183 t187 false) = some r := by rw [if_neg (show ¬ (false = true) by decide)] at H; exact H
              clear H
              have H := H1
              clear H1
              have H' := Aside0.mk H
              clear H
              obtain ⟨Ao85, co85, eo85⟩ := Kd.V_slice HO189.out
              subst eo85
              go_wp2_with (first | ((with_reducible refine gate_callee (f := 14) rfl ?_); refine goesL_ (some 30) rfl rfl Tryd.func14 (by kernel_rfl) rfl #[.slice Ao85 t187.length co85] rfl Cmp.au ?_; (with_reducible refine (delta_Consolidated.calls kj4 _ _ t187 true _ ?side1 ?side2 A22.out).mono ?_); (case side1 => repeat (first | exact (Kd.V_reads' HO189.out).2.2 | (with_reducible refine Kd.C_alloc ?_ _) | (with_reducible refine Kd.C_drewN ?_ _) | (with_reducible refine Kd.C_drew ?_))); (case side2 => exact (Kd.V_reads' HO189.out).2.1); rintro e w86 ⟨rfl, hb⟩; refine ⟨_, rfl, ?_⟩; have n0_ := Aside0.mk (Cmp.vb hb HO189.out); have n1_ := Aside0.mk (below_step (Cmp.bq HB.out) hb); clear HO189; clear HB; have HO189 := n0_; have HB := n1_; clear n0_ n1_; (try clear hb); (try clear hb2); (try clear hk); (try clear hi)) | (go_at_call 16; (with_reducible refine (delta_Add.calls _ _ l1 _ _ l0 t191 _ ?side1 ?side2 ?side3 ?side4 A24.out).mono ?_); (case side1 => exact Cmp.cb (Kd.C_below HR1.out HB.out)); (case side2 => exact HC1.out); (case side3 => exact Cmp.cb (Kd.C_below HR0.out HB.out)); (case side4 => exact HC0.out); rintro e w87 ⟨v192, rfl, ho0, hb⟩; have n0_ := Aside0.mk (Cmp.vb hb HO189.out); have n1_ := Aside0.mk (Kd.V_lower (Kd.V_mono (ok' := fun k_ => True) ho0 (fun k_ hk_ => trivial)) (below_size (Cmp.bq HB.out))); have n2_ := Aside0.mk (below_step (Cmp.bq HB.out) hb); clear HO189; clear HB; have HO189 := n0_; have HO193 := n1_; have HB := n2_; clear n0_ n1_ n2_; (try clear hb); (try clear hb2); (try clear hk); (try clear hi); (try clear ho0); obtain ⟨Ao88, co88, eo88⟩ := Kd.V_slice HO193.out; subst eo88) | (go_at_call 15; (with_reducible refine (errataref28_Equal.calls kj4 _ _ t187 _ _ t191 false _ ?side1 ?side2 ?side3 ?side4 A25.out).mono ?_); (case side1 => repeat (first | exact (Kd.V_reads' HO189.out).2.2 | (with_reducible refine Kd.C_alloc ?_ _) | (with_reducible refine Kd.C_drewN ?_ _) | (with_reducible refine Kd.C_drew ?_))); (case side2 => exact (Kd.V_reads' HO189.out).2.1); (case side3 => repeat (first | exact (Kd.V_reads' HO193.out).2.2 | (with_reducible refine Kd.C_alloc ?_ _) | (with_reducible refine Kd.C_drewN ?_ _) | (with_reducible refine Kd.C_drew ?_))); (case side4 => exact (Kd.V_reads' HO193.out).2.1); rintro e w89 ⟨rfl, hb⟩; have n0_ := Aside0.mk (Cmp.vb hb HO189.out); have n1_ := Aside0.mk (Cmp.vb hb HO193.out); have n2_ := Aside0.mk (below_step (Cmp.bq HB.out) hb); clear HO189; clear HO193; clear HB; have HO189 := n0_; have HO193 := n1_; have HB := n2_; clear n0_ n1_ n2_; (try clear hb); (try clear hb2); (try clear hk); (try clear hi)))
              go_meet
              case rel => exact ⟨_, (false), (by first | rfl | (simp; done) | (simp [*]; done)), H', ⟨by have := HJ4.out; first | omega | exact Nat.le_refl _⟩, ⟨by (with_reducible repeat (first | apply Kd.V_alloc | apply Kd.V_drewN | apply Kd.V_drew)); exact HO189.out⟩, ⟨by repeat (first | (with_reducible first | exact HB.out | apply below_alloc | apply pw_below_drewN | apply below_drew1) | exact HB.out)⟩⟩
          · replace c23 := Bool.eq_false_iff.mpr c23
            subst c23
            have H1 : (erratalaw28_DeltaGroup.j1 kj4 l0 l1 t183 t187 false) = some r := by rw [if_neg (show ¬ (false = true) by decide)] at H; exact H
            clear H
            have H := H1
            clear H1
            have H' := Aside0.mk H
            clear H
            obtain ⟨Ao90, co90, eo90⟩ := Kd.V_slice HO189.out
            subst eo90
            go_wp2_with (first | ((with_reducible refine gate_callee (f := 14) rfl ?_); refine goesL_ (some 30) rfl rfl Tryd.func14 (by kernel_rfl) rfl #[.slice Ao90 t187.length co90] rfl Cmp.au ?_; (with_reducible refine (delta_Consolidated.calls kj4 _ _ t187 false _ ?side1 ?side2 A22.out).mono ?_); (case side1 => repeat (first | exact (Kd.V_reads' HO189.out).2.2 | (with_reducible refine Kd.C_alloc ?_ _) | (with_reducible refine Kd.C_drewN ?_ _) | (with_reducible refine Kd.C_drew ?_))); (case side2 => exact (Kd.V_reads' HO189.out).2.1); rintro e w91 ⟨rfl, hb⟩; refine ⟨_, rfl, ?_⟩; have n0_ := Aside0.mk (Cmp.vb hb HO189.out); have n1_ := Aside0.mk (below_step (Cmp.bq HB.out) hb); clear HO189; clear HB; have HO189 := n0_; have HB := n1_; clear n0_ n1_; (try clear hb); (try clear hb2); (try clear hk); (try clear hi)))
            go_meet
            case rel => exact ⟨_, (false), (by first | rfl | (simp; done) | (simp [*]; done)), H', ⟨by have := HJ4.out; first | omega | exact Nat.le_refl _⟩, ⟨by (with_reducible repeat (first | apply Kd.V_alloc | apply Kd.V_drewN | apply Kd.V_drew)); exact HO189.out⟩, ⟨by repeat (first | (with_reducible first | exact HB.out | apply below_alloc | apply pw_below_drewN | apply below_drew1) | exact HB.out)⟩⟩
        case rest =>
          clear HC20
          try clear c1
          try clear c2
          try clear p2
          try clear c3
          try clear c5
          try clear c8
          try clear c10
          try clear c11
          try clear c14
          try clear c16
          try clear c18
          try clear c23
          try clear c26
          try clear c31
          try clear c35
          try clear p2
          obtain ⟨kq, x9_19, rfl, HA, HJ19, HO_8, HB⟩ := hcut
          cases kq with
          | zero => exact absurd HA.out (by simp [erratalaw28_DeltaGroup.j1])
          | succ kj19 =>
            have H := HA.out
            clear HA
            simp only [erratalaw28_DeltaGroup.j1] at H
            have H' := Aside0.mk H
            clear H
            go_wp2
            go_loopg [10] kj19 (fun kq v10 w' => ∃ (x10_3 : Int), v10 = .int .i64 x10_3 ∧ Aside0 (erratalaw28_DeltaGroup.l0 kq l0 l1 t183 t187 x9_19 x10_3 = some r) ∧ Aside0 (kq ≤ kj19) ∧ Aside0 (Kd.V k28 28 w' w.heap.size (fun _ => True) v188 t187) ∧ Aside0 (Below w.heap.size w w'))
            case atStart => exact ⟨(0), (by first | rfl | (simp; done) | (simp [*]; done)), H', ⟨Nat.le_refl _⟩, ⟨by (with_reducible repeat (first | apply Kd.V_alloc | apply Kd.V_drewN | apply Kd.V_drew)); exact HO_8.out⟩, ⟨by repeat (first | (with_reducible first | exact HB.out | apply below_alloc | apply pw_below_drewN | apply below_drew1) | exact HB.out)⟩⟩
            case round =>
              clear H'
              try clear c1
              try clear c2
              try clear p2
              try clear c3
              try clear c5
              try clear c8
              try clear c10
              try clear c11
              try clear c14
              try clear c16
              try clear c18
              try clear c23
              try clear c26
              try clear c31
              try clear c35
              try clear p2
              obtain ⟨x10_3, rfl, HA, HK3, HO_8, HB⟩ := hrel
              cases gk with
              | zero => exact absurd HA.out (by simp [erratalaw28_DeltaGroup.l0])
              | succ k3 =>
                have H := HA.out
                clear HA
                simp only [erratalaw28_DeltaGroup.l0] at H
                by_cases c92 : x10_3 < (l0.length : Int)
                · rw [if_pos c92] at H
                  have c92b0 : decide (x10_3 < (l0.length : Int)) = true := decide_eq_true c92
                  clear c92
                  by_cases c93 : 0 ≤ x10_3
                  · rw [if_pos c93] at H
                    have c93b0 : decide (0 ≤ x10_3) = true := decide_eq_true c93
                    clear c93
                    replace H := Option.bind_eq_some_iff.mp H
                    obtain ⟨t217, A940, H⟩ := H
                    replace H : ((delta_Find.f k3 l0 ((rd_T28 l0 x10_3).f0) ((rd_T28 l0 x10_3).f1)).bind fun t220 => ((delta_Find.f k3 l1 ((rd_T28 l0 x10_3).f0) ((rd_T28 l0 x10_3).f1)).bind fun t223 => (if t217 = (wrap64 (t220 + t223)) then (erratalaw28_DeltaGroup.l0 k3 l0 l1 t183 t187 x9_19 (wrap64 (x10_3 + 1))) else (some false)))) = some r := H
                    have A94 := Aside0.mk A940
                    clear A940
                    replace H := Option.bind_eq_some_iff.mp H
                    obtain ⟨t220, A950, H⟩ := H
                    replace H : ((delta_Find.f k3 l1 ((rd_T28 l0 x10_3).f0) ((rd_T28 l0 x10_3).f1)).bind fun t223 => (if t217 = (wrap64 (t220 + t223)) then (erratalaw28_DeltaGroup.l0 k3 l0 l1 t183 t187 x9_19 (wrap64 (x10_3 + 1))) else (some false))) = some r := H
                    have A95 := Aside0.mk A950
                    clear A950
                    replace H := Option.bind_eq_some_iff.mp H
                    obtain ⟨t223, A960, H⟩ := H
                    replace H : (if t217 = (wrap64 (t220 + t223)) then (erratalaw28_DeltaGroup.l0 k3 l0 l1 t183 t187 x9_19 (wrap64 (x10_3 + 1))) else (some false)) = some r := H
                    have A96 := Aside0.mk A960
                    clear A960
                    by_cases c97 : t217 = (wrap64 (t220 + t223))
                    · rw [if_pos c97] at H
                      have c97b0 : (t217 == (wrap64 (t220 + t223))) = true := beq_iff_eq.mpr c97
                      have c97b1 : (t217 != (wrap64 (t220 + t223))) = false := bne_eq_false_iff_eq.mpr c97
                      clear c97
                      have H' := Aside0.mk H
                      clear H
                      try go_wp2
                      have n0_ := Aside0.mk (Kd.V_drew HO_8.out)
                      have n1_ := Aside0.mk (below_drew1 HB.out)
                      clear HO_8
                      clear HB
                      have HO_8 := n0_
                      have HB := n1_
                      clear n0_ n1_
                      have p215 : 0 ≤ (x10_3 : Int) := of_decide_eq_true (by first | (with_reducible assumption) | assumption)
                      have q215 : x10_3 < (l0.length : Int) := of_decide_eq_true (by first | (with_reducible assumption) | assumption)
                      obtain ⟨ad215, A215_1, c215_1, e215, hx215_0, hx215_1, hx215_2, hl215_1, hi215_1⟩ := at_T28 HR0.out x10_3 p215 q215
                      have hw215_2 := hx215_2
                      have hw215_1 := hx215_1
                      have hw215_0 := hx215_0
                      cases e215
                      replace hx215_0 := (HB.out.cell (World.block_lt_of_cell? w _ hx215_0)).trans hx215_0
                      replace hx215_1 := (HB.out.cell (World.block_lt_of_cell? w _ hx215_1)).trans hx215_1
                      replace hx215_2 := (HB.out.cell (World.block_lt_of_cell? w _ hx215_2)).trans hx215_2
                      have HR215_1 := Aside0.mk hi215_1
                      have HC215_1 := Aside0.mk hl215_1
                      clear hi215_1 hl215_1
                      replace p215 := eq_true p215
                      replace q215 := eq_true q215
                      have p216 : 0 ≤ (x10_3 : Int) := of_decide_eq_true (by first | (with_reducible assumption) | assumption)
                      have q216 : x10_3 < (l0.length : Int) := of_decide_eq_true (by first | (with_reducible assumption) | assumption)
                      obtain ⟨ad216, A216_1, c216_1, e216, hx216_0, hx216_1, hx216_2, hl216_1, hi216_1⟩ := at_T28 HR0.out x10_3 p216 q216
                      have hw216_2 := hx216_2
                      have hw216_1 := hx216_1
                      have hw216_0 := hx216_0
                      obtain rfl : ad215 = ad216 := (by injection e216)
                      replace hx216_0 := (HB.out.cell (World.block_lt_of_cell? w _ hx216_0)).trans hx216_0
                      replace hx216_1 := (HB.out.cell (World.block_lt_of_cell? w _ hx216_1)).trans hx216_1
                      replace hx216_2 := (HB.out.cell (World.block_lt_of_cell? w _ hx216_2)).trans hx216_2
                      have HR216_1 := Aside0.mk hi216_1
                      have HC216_1 := Aside0.mk hl216_1
                      clear hi216_1 hl216_1
                      replace p216 := eq_true p216
                      replace q216 := eq_true q216
                      have ea_ := Option.some.inj (hx215_1.symm.trans hx216_1)
                      injection ea_ with ea_ en_ ec_
                      subst ea_
                      subst ec_
                      clear en_
                      have p218 : 0 ≤ (x10_3 : Int) := of_decide_eq_true (by first | (with_reducible assumption) | assumption)
                      have q218 : x10_3 < (l0.length : Int) := of_decide_eq_true (by first | (with_reducible assumption) | assumption)
                      obtain ⟨ad218, A218_1, c218_1, e218, hx218_0, hx218_1, hx218_2, hl218_1, hi218_1⟩ := at_T28 HR0.out x10_3 p218 q218
                      have hw218_2 := hx218_2
                      have hw218_1 := hx218_1
                      have hw218_0 := hx218_0
                      obtain rfl : ad215 = ad218 := (by injection e218)
                      replace hx218_0 := (HB.out.cell (World.block_lt_of_cell? w _ hx218_0)).trans hx218_0
                      replace hx218_1 := (HB.out.cell (World.block_lt_of_cell? w _ hx218_1)).trans hx218_1
                      replace hx218_2 := (HB.out.cell (World.block_lt_of_cell? w _ hx218_2)).trans hx218_2
                      have HR218_1 := Aside0.mk hi218_1
                      have HC218_1 := Aside0.mk hl218_1
                      clear hi218_1 hl218_1
                      replace p218 := eq_true p218
                      replace q218 := eq_true q218
                      have ea_ := Option.some.inj (hx215_1.symm.trans hx218_1)
                      injection ea_ with ea_ en_ ec_
                      subst ea_
                      subst ec_
                      clear en_
                      have p219 : 0 ≤ (x10_3 : Int) := of_decide_eq_true (by first | (with_reducible assumption) | assumption)
                      have q219 : x10_3 < (l0.length : Int) := of_decide_eq_true (by first | (with_reducible assumption) | assumption)
                      obtain ⟨ad219, A219_1, c219_1, e219, hx219_0, hx219_1, hx219_2, hl219_1, hi219_1⟩ := at_T28 HR0.out x10_3 p219 q219
                      have hw219_2 := hx219_2
                      have hw219_1 := hx219_1
                      have hw219_0 := hx219_0
                      obtain rfl : ad215 = ad219 := (by injection e219)
                      replace hx219_0 := (HB.out.cell (World.block_lt_of_cell? w _ hx219_0)).trans hx219_0
                      replace hx219_1 := (HB.out.cell (World.block_lt_of_cell? w _ hx219_1)).trans hx219_1
                      replace hx219_2 := (HB.out.cell (World.block_lt_of_cell? w _ hx219_2)).trans hx219_2
                      have HR219_1 := Aside0.mk hi219_1
                      have HC219_1 := Aside0.mk hl219_1
                      clear hi219_1 hl219_1
                      replace p219 := eq_true p219
                      replace q219 := eq_true q219
                      have ea_ := Option.some.inj (hx215_1.symm.trans hx219_1)
                      injection ea_ with ea_ en_ ec_
                      subst ea_
                      subst ec_
                      clear en_
                      have p221 : 0 ≤ (x10_3 : Int) := of_decide_eq_true (by first | (with_reducible assumption) | assumption)
                      have q221 : x10_3 < (l0.length : Int) := of_decide_eq_true (by first | (with_reducible assumption) | assumption)
                      obtain ⟨ad221, A221_1, c221_1, e221, hx221_0, hx221_1, hx221_2, hl221_1, hi221_1⟩ := at_T28 HR0.out x10_3 p221 q221
                      have hw221_2 := hx221_2
                      have hw221_1 := hx221_1
                      have hw221_0 := hx221_0
                      obtain rfl : ad215 = ad221 := (by injection e221)
                      replace hx221_0 := (HB.out.cell (World.block_lt_of_cell? w _ hx221_0)).trans hx221_0
                      replace hx221_1 := (HB.out.cell (World.block_lt_of_cell? w _ hx221_1)).trans hx221_1
                      replace hx221_2 := (HB.out.cell (World.block_lt_of_cell? w _ hx221_2)).trans hx221_2
                      have HR221_1 := Aside0.mk hi221_1
                      have HC221_1 := Aside0.mk hl221_1
                      clear hi221_1 hl221_1
                      replace p221 := eq_true p221
                      replace q221 := eq_true q221
                      have ea_ := Option.some.inj (hx215_1.symm.trans hx221_1)
                      injection ea_ with ea_ en_ ec_
                      subst ea_
                      subst ec_
                      clear en_
                      have p222 : 0 ≤ (x10_3 : Int) := of_decide_eq_true (by first | (with_reducible assumption) | assumption)
                      have q222 : x10_3 < (l0.length : Int) := of_decide_eq_true (by first | (with_reducible assumption) | assumption)
                      obtain ⟨ad222, A222_1, c222_1, e222, hx222_0, hx222_1, hx222_2, hl222_1, hi222_1⟩ := at_T28 HR0.out x10_3 p222 q222
                      have hw222_2 := hx222_2
                      have hw222_1 := hx222_1
                      have hw222_0 := hx222_0
                      obtain rfl : ad215 = ad222 := (by injection e222)
                      replace hx222_0 := (HB.out.cell (World.block_lt_of_cell? w _ hx222_0)).trans hx222_0
                      replace hx222_1 := (HB.out.cell (World.block_lt_of_cell? w _ hx222_1)).trans hx222_1
                      replace hx222_2 := (HB.out.cell (World.block_lt_of_cell? w _ hx222_2)).trans hx222_2
                      have HR222_1 := Aside0.mk hi222_1
                      have HC222_1 := Aside0.mk hl222_1
                      clear hi222_1 hl222_1
                      replace p222 := eq_true p222
                      replace q222 := eq_true q222
                      have ea_ := Option.some.inj (hx215_1.symm.trans hx222_1)
                      injection ea_ with ea_ en_ ec_
                      subst ea_
                      subst ec_
                      clear en_
                      obtain ⟨Ao99, co99, eo99⟩ := Kd.V_slice HO_8.out
                      (first | subst eo99 | (injection eo99 with f1_ f2_ f3_; have f4_ := f1_.symm; have f5_ := f3_.symm; clear f1_ f2_ f3_; subst f4_; subst f5_))
                      refine start_ (n := 38) (S := fun w' => w'.cell? (ad215.add ((x10_3).toNat * 3)) = some (.int .i64 ((rd_T28 l0 x10_3).f0)) ∧ w'.cell? ⟨(ad215.add ((x10_3).toNat * 3)).block, (ad215.add ((x10_3).toNat * 3)).off + 1, none⟩ = some (.slice A215_1 ((rd_T28 l0 x10_3).f1).length c215_1) ∧ w'.cell? ⟨(ad215.add ((x10_3).toNat * 3)).block, (ad215.add ((x10_3).toNat * 3)).off + 2, none⟩ = some (.int .i64 ((rd_T28 l0 x10_3).f2)) ∧ w'.cell? (ad215.add ((x10_3).toNat * 3)) = some (.int .i64 ((rd_T28 l0 x10_3).f0)) ∧ w'.cell? ⟨(ad215.add ((x10_3).toNat * 3)).block, (ad215.add ((x10_3).toNat * 3)).off + 1, none⟩ = some (.slice A215_1 ((rd_T28 l0 x10_3).f1).length c215_1) ∧ w'.cell? ⟨(ad215.add ((x10_3).toNat * 3)).block, (ad215.add ((x10_3).toNat * 3)).off + 2, none⟩ = some (.int .i64 ((rd_T28 l0 x10_3).f2)) ∧ w'.cell? (ad215.add ((x10_3).toNat * 3)) = some (.int .i64 ((rd_T28 l0 x10_3).f0)) ∧ w'.cell? ⟨(ad215.add ((x10_3).toNat * 3)).block, (ad215.add ((x10_3).toNat * 3)).off + 1, none⟩ = some (.slice A215_1 ((rd_T28 l0 x10_3).f1).length c215_1) ∧ w'.cell? ⟨(ad215.add ((x10_3).toNat * 3)).block, (ad215.add ((x10_3).toNat * 3)).off + 2, none⟩ = some (.int .i64 ((rd_T28 l0 x10_3).f2)) ∧ w'.cell? (ad215.add ((x10_3).toNat * 3)) = some (.int .i64 ((rd_T28 l0 x10_3).f0)) ∧ w'.cell? ⟨(ad215.add ((x10_3).toNat * 3)).block, (ad215.add ((x10_3).toNat * 3)).off + 1, none⟩ = some (.slice A215_1 ((rd_T28 l0 x10_3).f1).length c215_1) ∧ w'.cell? ⟨(ad215.add ((x10_3).toNat * 3)).block, (ad215.add ((x10_3).toNat * 3)).off + 2, none⟩ = some (.int .i64 ((rd_T28 l0 x10_3).f2)) ∧ w'.cell? (ad215.add ((x10_3).toNat * 3)) = some (.int .i64 ((rd_T28 l0 x10_3).f0)) ∧ w'.cell? ⟨(ad215.add ((x10_3).toNat * 3)).block, (ad215.add ((x10_3).toNat * 3)).off + 1, none⟩ = some (.slice A215_1 ((rd_T28 l0 x10_3).f1).length c215_1) ∧ w'.cell? ⟨(ad215.add ((x10_3).toNat * 3)).block, (ad215.add ((x10_3).toNat * 3)).off + 2, none⟩ = some (.int .i64 ((rd_T28 l0 x10_3).f2)) ∧ w'.cell? (ad215.add ((x10_3).toNat * 3)) = some (.int .i64 ((rd_T28 l0 x10_3).f0)) ∧ w'.cell? ⟨(ad215.add ((x10_3).toNat * 3)).block, (ad215.add ((x10_3).toNat * 3)).off + 1, none⟩ = some (.slice A215_1 ((rd_T28 l0 x10_3).f1).length c215_1) ∧ w'.cell? ⟨(ad215.add ((x10_3).toNat * 3)).block, (ad215.add ((x10_3).toNat * 3)).off + 2, none⟩ = some (.int .i64 ((rd_T28 l0 x10_3).f2))) (ds := []) #[false, false, false, false, false, false, false, false, false, false, false, false, false, false, false, false, false, false, false, false, false, false, false, false, false, false, false, false, false, false, false, false, false, false, false, false, false, false] (by kernel_rfl) rfl rfl ⟨((HB.out.cell (World.block_lt_of_cell? w _ hw215_0)).trans hw215_0), ((HB.out.cell (World.block_lt_of_cell? w _ hw215_1)).trans hw215_1), ((HB.out.cell (World.block_lt_of_cell? w _ hw215_2)).trans hw215_2), ((HB.out.cell (World.block_lt_of_cell? w _ hw216_0)).trans hw216_0), ((HB.out.cell (World.block_lt_of_cell? w _ hw216_1)).trans hw216_1), ((HB.out.cell (World.block_lt_of_cell? w _ hw216_2)).trans hw216_2), ((HB.out.cell (World.block_lt_of_cell? w _ hw218_0)).trans hw218_0), ((HB.out.cell (World.block_lt_of_cell? w _ hw218_1)).trans hw218_1), ((HB.out.cell (World.block_lt_of_cell? w _ hw218_2)).trans hw218_2), ((HB.out.cell (World.block_lt_of_cell? w _ hw219_0)).trans hw219_0), ((HB.out.cell (World.block_lt_of_cell? w _ hw219_1)).trans hw219_1), ((HB.out.cell (World.block_lt_of_cell? w _ hw219_2)).trans hw219_2), ((HB.out.cell (World.block_lt_of_cell? w _ hw221_0)).trans hw221_0), ((HB.out.cell (World.block_lt_of_cell? w _ hw221_1)).trans hw221_1), ((HB.out.cell (World.block_lt_of_cell? w _ hw221_2)).trans hw221_2), ((HB.out.cell (World.block_lt_of_cell? w _ hw222_0)).trans hw222_0), ((HB.out.cell (World.block_lt_of_cell? w _ hw222_1)).trans hw222_1), ((HB.out.cell (World.block_lt_of_cell? w _ hw222_2)).trans hw222_2)⟩ (fun hHeld => ?_); refine with_tabW erratalaw28_DeltaGroup.tab9 erratalaw28_DeltaGroup.bits9 (fun HT_ HW_ => ?_)
                      generalize wr.drew = w98 at HO_8 HB HR215_1 HR216_1 HR218_1 HR219_1 HR221_1 HR222_1 hx215_0 hx215_1 hx215_2 hx216_0 hx216_1 hx216_2 hx218_0 hx218_1 hx218_2 hx219_0 hx219_1 hx219_2 hx221_0 hx221_1 hx221_2 hx222_0 hx222_1 hx222_2 hHeld ⊢
                      refine pure_ (i := 0) (N := some 70) (v := ?_) (a' := ?_) #[true, false, false, false, false, false, false, false, false, false, false, false, false, false, false, false, false, false, false, false, false, false, false, false, false, false, false, false, false, false, false, false, false, false, false, false, false, false] rfl rfl (any_of HT_.out (by kernel_rfl)) (fun _ _ _ h => h) (Or.inl ⟨by rfl, ?_⟩) ?_ ?_
                      rotate_left
                      · intro w'
                        go_simp
                        with_reducible rfl
                      rotate_left
                      · simp only [Act.put, List.setIfInBounds_toArray, List.set_cons_zero, List.set_cons_succ, i64_w, i32_w]
                        rfl
                      refine pure_ (i := 1) (N := some 71) (v := ?_) (a' := ?_) #[true, true, false, false, false, false, false, false, false, false, false, false, false, false, false, false, false, false, false, false, false, false, false, false, false, false, false, false, false, false, false, false, false, false, false, false, false, false] rfl rfl (any_of HT_.out (by kernel_rfl)) (fun _ _ _ h => h) (Or.inl ⟨by rfl, ?_⟩) ?_ ?_
                      rotate_left
                      · intro w'
                        go_simp
                        with_reducible rfl
                      rotate_left
                      · simp only [Act.put, List.setIfInBounds_toArray, List.set_cons_zero, List.set_cons_succ, i64_w, i32_w]
                        rfl
                      refine pure_ (i := 2) (N := some 72) (v := ?_) (a' := ?_) #[true, true, true, false, false, false, false, false, false, false, false, false, false, false, false, false, false, false, false, false, false, false, false, false, false, false, false, false, false, false, false, false, false, false, false, false, false, false] rfl rfl (any_of HT_.out (by kernel_rfl)) (fun _ _ _ h => h) (Or.inl ⟨by rfl, ?_⟩) ?_ ?_
                      rotate_left
                      · intro w'
                        go_simp
                        with_reducible rfl
                      rotate_left
                      · simp only [Act.put, List.setIfInBounds_toArray, List.set_cons_zero, List.set_cons_succ, i64_w, i32_w]
                        rfl
                      refine pure_ (i := 3) (N := some 73) (v := ?_) (a' := ?_) #[true, true, true, true, false, false, false, false, false, false, false, false, false, false, false, false, false, false, false, false, false, false, false, false, false, false, false, false, false, false, false, false, false, false, false, false, false, false] rfl rfl (any_of HT_.out (by kernel_rfl)) (fun _ _ _ h => h) (Or.inl ⟨by rfl, ?_⟩) ?_ ?_
                      rotate_left
                      · intro w'
                        go_simp
                        with_reducible rfl
                      rotate_left
                      · simp only [Act.put, List.setIfInBounds_toArray, List.set_cons_zero, List.set_cons_succ, i64_w, i32_w]
                        rfl
                      refine pure_ (i := 4) (N := some 74) (v := ?_) (a' := ?_) #[true, true, true, true, true, false, false, false, false, false, false, false, false, false, false, false, false, false, false, false, false, false, false, false, false, false, false, false, false, false, false, false, false, false, false, false, false, false] rfl rfl (any_of HT_.out (by kernel_rfl)) (fun _ _ _ h => h) (Or.inl ⟨by rfl, ?_⟩) ?_ ?_
                      rotate_left
                      · intro w'
                        go_simp
                        with_reducible rfl
                      rotate_left
                      · simp only [Act.put, List.setIfInBounds_toArray, List.set_cons_zero, List.set_cons_succ, i64_w, i32_w]
                        rfl
                      refine pure_ (i := 6) (N := some 76) (v := ?_) (a' := ?_) #[true, true, true, true, true, false, true, false, false, false, false, false, false, false, false, false, false, false, false, false, false, false, false, false, false, false, false, false, false, false, false, false, false, false, false, false, false, false] rfl rfl (any_of HT_.out (by kernel_rfl)) (fun _ _ _ h => h) (Or.inl ⟨by rfl, ?_⟩) ?_ ?_
                      rotate_left
                      · intro w'
                        go_simp
                        with_reducible rfl
                      rotate_left
                      · simp only [Act.put, List.setIfInBounds_toArray, List.set_cons_zero, List.set_cons_succ, i64_w, i32_w]
                        rfl
                      refine pure_ (i := 7) (N := some 77) (v := ?_) (a' := ?_) #[true, true, true, true, true, false, true, true, false, false, false, false, false, false, false, false, false, false, false, false, false, false, false, false, false, false, false, false, false, false, false, false, false, false, false, false, false, false] rfl rfl (any_of HT_.out (by kernel_rfl)) (fun _ _ _ h => h) (Or.inl ⟨by rfl, ?_⟩) ?_ ?_
                      rotate_left
                      · intro w'
                        go_simp
                        with_reducible rfl
                      rotate_left
                      · simp only [Act.put, List.setIfInBounds_toArray, List.set_cons_zero, List.set_cons_succ, i64_w, i32_w]
                        rfl
                      refine pure_ (i := 8) (N := some 78) (v := ?_) (a' := ?_) #[true, true, true, true, true, false, true, true, true, false, false, false, false, false, false, false, false, false, false, false, false, false, false, false, false, false, false, false, false, false, false, false, false, false, false, false, false, false] rfl rfl (any_of HT_.out (by kernel_rfl)) (fun _ _ _ h => h) (Or.inl ⟨by rfl, ?_⟩) ?_ ?_
                      rotate_left
                      · intro w'
                        go_simp
                        with_reducible rfl
                      rotate_left
                      · simp only [Act.put, List.setIfInBounds_toArray, List.set_cons_zero, List.set_cons_succ, i64_w, i32_w]
                        rfl
                      refine pure_ (i := 9) (N := some 79) (v := ?_) (a' := ?_) #[true, true, true, true, true, false, true, true, true, true, false, false, false, false, false, false, false, false, false, false, false, false, false, false, false, false, false, false, false, false, false, false, false, false, false, false, false, false] rfl rfl (any_of HT_.out (by kernel_rfl)) (fun _ _ _ h => h) (Or.inl ⟨by rfl, ?_⟩) ?_ ?_
                      rotate_left
                      · intro w'
                        go_simp
                        with_reducible rfl
                      rotate_left
                      · simp only [Act.put, List.setIfInBounds_toArray, List.set_cons_zero, List.set_cons_succ, i64_w, i32_w]
                        rfl
                      refine pure_ (i := 12) (N := some 82) (v := ?_) (a' := ?_) #[true, true, true, true, true, false, true, true, true, true, false, false, true, false, false, false, false, false, false, false, false, false, false, false, false, false, false, false, false, false, false, false, false, false, false, false, false, false] rfl rfl (any_of HT_.out (by kernel_rfl)) (fun _ _ _ h => h) (Or.inl ⟨by rfl, ?_⟩) ?_ ?_
                      rotate_left
                      · intro w'
                        go_simp
                        with_reducible rfl
                      rotate_left
                      · simp only [Act.put, List.setIfInBounds_toArray, List.set_cons_zero, List.set_cons_succ, i64_w, i32_w]
                        rfl
                      refine pure_ (i := 13) (N := some 83) (v := ?_) (a' := ?_) #[true, true, true, true, true, false, true, true, true, true, false, false, true, true, false, false, false, false, false, false, false, false, false, false, false, false, false, false, false, false, false, false, false, false, false, false, false, false] rfl rfl (any_of HT_.out (by kernel_rfl)) (fun _ _ _ h => h) (Or.inl ⟨by rfl, ?_⟩) ?_ ?_
                      rotate_left
                      · intro w'
                        go_simp
                        with_reducible rfl
                      rotate_left
                      · simp only [Act.put, List.setIfInBounds_toArray, List.set_cons_zero, List.set_cons_succ, i64_w, i32_w]
                        rfl
                      refine pure_ (i := 14) (N := some 84) (v := ?_) (a' := ?_) #[true, true, true, true, true, false, true, true, true, true, false, false, true, true, true, false, false, false, false, false, false, false, false, false, false, false, false, false, false, false, false, false, false, false, false, false, false, false] rfl rfl (any_of HT_.out (by kernel_rfl)) (fun _ _ _ h => h) (Or.inl ⟨by rfl, ?_⟩) ?_ ?_
                      rotate_left
                      · intro w'
                        go_simp
                        with_reducible rfl
                      rotate_left
                      · simp only [Act.put, List.setIfInBounds_toArray, List.set_cons_zero, List.set_cons_succ, i64_w, i32_w]
                        rfl
                      refine pure_ (i := 15) (N := some 85) (v := ?_) (a' := ?_) #[true, true, true, true, true, false, true, true, true, true, false, false, true, true, true, true, false, false, false, false, false, false, false, false, false, false, false, false, false, false, false, false, false, false, false, false, false, false] rfl rfl (any_of HT_.out (by kernel_rfl)) (fun _ _ _ h => h) (Or.inl ⟨by rfl, ?_⟩) ?_ ?_
                      rotate_left
                      · intro w'
                        go_simp
                        with_reducible rfl
                      rotate_left
                      · simp only [Act.put, List.setIfInBounds_toArray, List.set_cons_zero, List.set_cons_succ, i64_w, i32_w]
                        rfl
                      refine pure_ (i := 16) (N := some 86) (v := ?_) (a' := ?_) #[true, true, true, true, true, false, true, true, true, true, false, false, true, true, true, true, true, false, false, false, false, false, false, false, false, false, false, false, false, false, false, false, false, false, false, false, false, false] rfl rfl (any_of HT_.out (by kernel_rfl)) (fun _ _ _ h => h) (Or.inl ⟨by rfl, ?_⟩) ?_ ?_
                      rotate_left
                      · intro w'
                        go_simp
                        with_reducible rfl
                      rotate_left
                      · simp only [Act.put, List.setIfInBounds_toArray, List.set_cons_zero, List.set_cons_succ, i64_w, i32_w]
                        rfl
                      refine pure_ (i := 18) (N := some 88) (v := ?_) (a' := ?_) #[true, true, true, true, true, false, true, true, true, true, false, false, true, true, true, true, true, false, true, false, false, false, false, false, false, false, false, false, false, false, false, false, false, false, false, false, false, false] rfl rfl (any_of HT_.out (by kernel_rfl)) (fun _ _ _ h => h) (Or.inl ⟨by rfl, ?_⟩) ?_ ?_
                      rotate_left
                      · intro w'
                        go_simp
                        with_reducible rfl
                      rotate_left
                      · simp only [Act.put, List.setIfInBounds_toArray, List.set_cons_zero, List.set_cons_succ, i64_w, i32_w]
                        rfl
                      refine pure_ (i := 19) (N := some 89) (v := ?_) (a' := ?_) #[true, true, true, true, true, false, true, true, true, true, false, false, true, true, true, true, true, false, true, true, false, false, false, false, false, false, false, false, false, false, false, false, false, false, false, false, false, false] rfl rfl (any_of HT_.out (by kernel_rfl)) (fun _ _ _ h => h) (Or.inl ⟨by rfl, ?_⟩) ?_ ?_
                      rotate_left
                      · intro w'
                        go_simp
                        with_reducible rfl
                      rotate_left
                      · simp only [Act.put, List.setIfInBounds_toArray, List.set_cons_zero, List.set_cons_succ, i64_w, i32_w]
                        rfl
                      refine pure_ (i := 20) (N := some 90) (v := ?_) (a' := ?_) #[true, true, true, true, true, false, true, true, true, true, false, false, true, true, true, true, true, false, true, true, true, false, false, false, false, false, false, false, false, false, false, false, false, false, false, false, false, false] rfl rfl (any_of HT_.out (by kernel_rfl)) (fun _ _ _ h => h) (Or.inl ⟨by rfl, ?_⟩) ?_ ?_
                      rotate_left
                      · intro w'
                        go_simp
                        with_reducible rfl
                      rotate_left
                      · simp only [Act.put, List.setIfInBounds_toArray, List.set_cons_zero, List.set_cons_succ, i64_w, i32_w]
                        rfl
                      refine pure_ (i := 21) (N := some 91) (v := ?_) (a' := ?_) #[true, true, true, true, true, false, true, true, true, true, false, false, true, true, true, true, true, false, true, true, true, true, false, false, false, false, false, false, false, false, false, false, false, false, false, false, false, false] rfl rfl (any_of HT_.out (by kernel_rfl)) (fun _ _ _ h => h) (Or.inl ⟨by rfl, ?_⟩) ?_ ?_
                      rotate_left
                      · intro w'
                        go_simp
                        with_reducible rfl
                      rotate_left
                      · simp only [Act.put, List.setIfInBounds_toArray, List.set_cons_zero, List.set_cons_succ, i64_w, i32_w]
                        rfl
                      refine pure_ (i := 24) (N := some 94) (v := ?_) (a' := ?_) #[true, true, true, true, true, false, true, true, true, true, false, false, true, true, true, true, true, false, true, true, true, true, false, false, true, false, false, false, false, false, false, false, false, false, false, false, false, false] rfl rfl (any_of HT_.out (by kernel_rfl)) (fun _ _ _ h => h) (Or.inl ⟨by rfl, ?_⟩) ?_ ?_
                      rotate_left
                      · intro w'
                        go_simp
                        with_reducible rfl
                      rotate_left
                      · simp only [Act.put, List.setIfInBounds_toArray, List.set_cons_zero, List.set_cons_succ, i64_w, i32_w]
                        rfl
                      refine pure_ (i := 25) (N := some 95) (v := ?_) (a' := ?_) #[true, true, true, true, true, false, true, true, true, true, false, false, true, true, true, true, true, false, true, true, true, true, false, false, true, true, false, false, false, false, false, false, false, false, false, false, false, false] rfl rfl (any_of HT_.out (by kernel_rfl)) (fun _ _ _ h => h) (Or.inl ⟨by rfl, ?_⟩) ?_ ?_
                      rotate_left
                      · intro w'
                        go_simp
                        with_reducible rfl
                      rotate_left
                      · simp only [Act.put, List.setIfInBounds_toArray, List.set_cons_zero, List.set_cons_succ, i64_w, i32_w]
                        rfl
                      refine pure_ (i := 26) (N := some 96) (v := ?_) (a' := ?_) #[true, true, true, true, true, false, true, true, true, true, false, false, true, true, true, true, true, false, true, true, true, true, false, false, true, true, true, false, false, false, false, false, false, false, false, false, false, false] rfl rfl (any_of HT_.out (by kernel_rfl)) (fun _ _ _ h => h) (Or.inl ⟨by rfl, ?_⟩) ?_ ?_
                      rotate_left
                      · intro w'
                        go_simp
                        with_reducible rfl
                      rotate_left
                      · simp only [Act.put, List.setIfInBounds_toArray, List.set_cons_zero, List.set_cons_succ, i64_w, i32_w]
                        rfl
                      refine pure_ (i := 27) (N := some 97) (v := ?_) (a' := ?_) #[true, true, true, true, true, false, true, true, true, true, false, false, true, true, true, true, true, false, true, true, true, true, false, false, true, true, true, true, false, false, false, false, false, false, false, false, false, false] rfl rfl (any_of HT_.out (by kernel_rfl)) (fun _ _ _ h => h) (Or.inl ⟨by rfl, ?_⟩) ?_ ?_
                      rotate_left
                      · intro w'
                        go_simp
                        with_reducible rfl
                      rotate_left
                      · simp only [Act.put, List.setIfInBounds_toArray, List.set_cons_zero, List.set_cons_succ, i64_w, i32_w]
                        rfl
                      refine pure_ (i := 28) (N := some 98) (v := ?_) (a' := ?_) #[true, true, true, true, true, false, true, true, true, true, false, false, true, true, true, true, true, false, true, true, true, true, false, false, true, true, true, true, true, false, false, false, false, false, false, false, false, false] rfl rfl (any_of HT_.out (by kernel_rfl)) (fun _ _ _ h => h) (Or.inl ⟨by rfl, ?_⟩) ?_ ?_
                      rotate_left
                      · intro w'
                        go_simp
                        with_reducible rfl
                      rotate_left
                      · simp only [Act.put, List.setIfInBounds_toArray, List.set_cons_zero, List.set_cons_succ, i64_w, i32_w]
                        rfl
                      refine pure_ (i := 30) (N := some 100) (v := ?_) (a' := ?_) #[true, true, true, true, true, false, true, true, true, true, false, false, true, true, true, true, true, false, true, true, true, true, false, false, true, true, true, true, true, false, true, false, false, false, false, false, false, false] rfl rfl (any_of HT_.out (by kernel_rfl)) (fun _ _ _ h => h) (Or.inl ⟨by rfl, ?_⟩) ?_ ?_
                      rotate_left
                      · intro w'
                        go_simp
                        with_reducible rfl
                      rotate_left
                      · simp only [Act.put, List.setIfInBounds_toArray, List.set_cons_zero, List.set_cons_succ, i64_w, i32_w]
                        rfl
                      refine pure_ (i := 31) (N := some 101) (v := ?_) (a' := ?_) #[true, true, true, true, true, false, true, true, true, true, false, false, true, true, true, true, true, false, true, true, true, true, false, false, true, true, true, true, true, false, true, true, false, false, false, false, false, false] rfl rfl (any_of HT_.out (by kernel_rfl)) (fun _ _ _ h => h) (Or.inl ⟨by rfl, ?_⟩) ?_ ?_
                      rotate_left
                      · intro w'
                        go_simp
                        with_reducible rfl
                      rotate_left
                      · simp only [Act.put, List.setIfInBounds_toArray, List.set_cons_zero, List.set_cons_succ, i64_w, i32_w]
                        rfl
                      refine pure_ (i := 32) (N := some 102) (v := ?_) (a' := ?_) #[true, true, true, true, true, false, true, true, true, true, false, false, true, true, true, true, true, false, true, true, true, true, false, false, true, true, true, true, true, false, true, true, true, false, false, false, false, false] rfl rfl (any_of HT_.out (by kernel_rfl)) (fun _ _ _ h => h) (Or.inl ⟨by rfl, ?_⟩) ?_ ?_
                      rotate_left
                      · intro w'
                        go_simp
                        with_reducible rfl
                      rotate_left
                      · simp only [Act.put, List.setIfInBounds_toArray, List.set_cons_zero, List.set_cons_succ, i64_w, i32_w]
                        rfl
                      refine pure_ (i := 33) (N := some 103) (v := ?_) (a' := ?_) #[true, true, true, true, true, false, true, true, true, true, false, false, true, true, true, true, true, false, true, true, true, true, false, false, true, true, true, true, true, false, true, true, true, true, false, false, false, false] rfl rfl (any_of HT_.out (by kernel_rfl)) (fun _ _ _ h => h) (Or.inl ⟨by rfl, ?_⟩) ?_ ?_
                      rotate_left
                      · intro w'
                        go_simp
                        with_reducible rfl
                      rotate_left
                      · simp only [Act.put, List.setIfInBounds_toArray, List.set_cons_zero, List.set_cons_succ, i64_w, i32_w]
                        rfl
                      refine take_ (i := 5) (N := some 75) (v := ?_) (a' := ?_) #[true, true, true, true, true, true, true, true, true, true, false, false, true, true, true, true, true, false, true, true, true, true, false, false, true, true, true, true, true, false, true, true, true, true, false, false, false, false] rfl rfl (take_ofW HT_.out HW_.out (by kernel_rfl)) (fun _ _ _ h => h) (Or.inl ⟨by rfl, ?_⟩) hHeld ?_ ?_
                      rotate_left
                      · rintro w' ⟨s0, s1, s2, s3, s4, s5, s6, s7, s8, s9, s10, s11, s12, s13, s14, s15, s16, s17⟩
                        go_simp
                        with_reducible rfl
                      rotate_left
                      · simp only [Act.put, List.setIfInBounds_toArray, List.set_cons_zero, List.set_cons_succ, i64_w, i32_w]
                        rfl
                      refine take_ (i := 10) (N := some 80) (v := ?_) (a' := ?_) #[true, true, true, true, true, true, true, true, true, true, true, false, true, true, true, true, true, false, true, true, true, true, false, false, true, true, true, true, true, false, true, true, true, true, false, false, false, false] rfl rfl (take_ofW HT_.out HW_.out (by kernel_rfl)) (fun _ _ _ h => h) (Or.inl ⟨by rfl, ?_⟩) hHeld ?_ ?_
                      rotate_left
                      · rintro w' ⟨s0, s1, s2, s3, s4, s5, s6, s7, s8, s9, s10, s11, s12, s13, s14, s15, s16, s17⟩
                        go_simp
                        with_reducible rfl
                      rotate_left
                      · simp only [Act.put, List.setIfInBounds_toArray, List.set_cons_zero, List.set_cons_succ, i64_w, i32_w]
                        rfl
                      refine take_ (i := 17) (N := some 87) (v := ?_) (a' := ?_) #[true, true, true, true, true, true, true, true, true, true, true, false, true, true, true, true, true, true, true, true, true, true, false, false, true, true, true, true, true, false, true, true, true, true, false, false, false, false] rfl rfl (take_ofW HT_.out HW_.out (by kernel_rfl)) (fun _ _ _ h => h) (Or.inl ⟨by rfl, ?_⟩) hHeld ?_ ?_
                      rotate_left
                      · rintro w' ⟨s0, s1, s2, s3, s4, s5, s6, s7, s8, s9, s10, s11, s12, s13, s14, s15, s16, s17⟩
                        go_simp
                        with_reducible rfl
                      rotate_left
                      · simp only [Act.put, List.setIfInBounds_toArray, List.set_cons_zero, List.set_cons_succ, i64_w, i32_w]
                        rfl
                      refine take_ (i := 22) (N := some 92) (v := ?_) (a' := ?_) #[true, true, true, true, true, true, true, true, true, true, true, false, true, true, true, true, true, true, true, true, true, true, true, false, true, true, true, true, true, false, true, true, true, true, false, false, false, false] rfl rfl (take_ofW HT_.out HW_.out (by kernel_rfl)) (fun _ _ _ h => h) (Or.inl ⟨by rfl, ?_⟩) hHeld ?_ ?_
                      rotate_left
                      · rintro w' ⟨s0, s1, s2, s3, s4, s5, s6, s7, s8, s9, s10, s11, s12, s13, s14, s15, s16, s17⟩
                        go_simp
                        with_reducible rfl
                      rotate_left
                      · simp only [Act.put, List.setIfInBounds_toArray, List.set_cons_zero, List.set_cons_succ, i64_w, i32_w]
                        rfl
                      refine take_ (i := 29) (N := some 99) (v := ?_) (a' := ?_) #[true, true, true, true, true, true, true, true, true, true, true, false, true, true, true, true, true, true, true, true, true, true, true, false, true, true, true, true, true, true, true, true, true, true, false, false, false, false] rfl rfl (take_ofW HT_.out HW_.out (by kernel_rfl)) (fun _ _ _ h => h) (Or.inl ⟨by rfl, ?_⟩) hHeld ?_ ?_
                      rotate_left
                      · rintro w' ⟨s0, s1, s2, s3, s4, s5, s6, s7, s8, s9, s10, s11, s12, s13, s14, s15, s16, s17⟩
                        go_simp
                        with_reducible rfl
                      rotate_left
                      · simp only [Act.put, List.setIfInBounds_toArray, List.set_cons_zero, List.set_cons_succ, i64_w, i32_w]
                        rfl
                      refine take_ (i := 34) (N := some 104) (v := ?_) (a' := ?_) #[true, true, true, true, true, true, true, true, true, true, true, false, true, true, true, true, true, true, true, true, true, true, true, false, true, true, true, true, true, true, true, true, true, true, true, false, false, false] rfl rfl (take_ofW HT_.out HW_.out (by kernel_rfl)) (fun _ _ _ h => h) (Or.inl ⟨by rfl, ?_⟩) hHeld ?_ ?_
                      rotate_left
                      · rintro w' ⟨s0, s1, s2, s3, s4, s5, s6, s7, s8, s9, s10, s11, s12, s13, s14, s15, s16, s17⟩
                        go_simp
                        with_reducible rfl
                      rotate_left
                      · simp only [Act.put, List.setIfInBounds_toArray, List.set_cons_zero, List.set_cons_succ, i64_w, i32_w]
                        rfl
                      refine one_ (i := 11) (N := some 81) #[true, true, true, true, true, true, true, true, true, true, true, true, true, true, true, true, true, true, true, true, true, true, true, false, true, true, true, true, true, true, true, true, true, true, true, false, false, false] rfl rfl (one_of HT_.out (by kernel_rfl)) (by decide) (fun K hK => ?_)
                      refine goes_ Tryd.func19 (by kernel_rfl) rfl #[.slice Ao99 t187.length co99, .int .i64 ((rd_T28 l0 x10_3).f0), .slice A215_1 ((rd_T28 l0 x10_3).f1).length c215_1] (by rfl) rfl rfl Cmp.au ?_
                      with_reducible refine (delta_Find.calls k3 _ _ t187 ((rd_T28 l0 x10_3).f0) _ _ ((rd_T28 l0 x10_3).f1) t217 _ ?side1 ?side2 ?side3 ?side4 A94.out).mono ?_
                      (case side1 => repeat (first | exact (Kd.V_reads' HO_8.out).2.2 | (with_reducible refine Kd.C_alloc ?_ _) | (with_reducible refine Kd.C_drewN ?_ _) | (with_reducible refine Kd.C_drew ?_)))
                      (case side2 => exact (Kd.V_reads' HO_8.out).2.1)
                      (case side3 => exact Cmp.cb (Kd.C_below HR216_1.out HB.out))
                      (case side4 => exact HC216_1.out)
                      rintro e w100 ⟨rfl, hb⟩
                      refine ⟨_, rfl, ?_⟩
                      have n0_ := Aside0.mk (Cmp.vb hb HO_8.out)
                      have n1_ := Aside0.mk (below_step (Cmp.bq HB.out) hb)
                      clear HO_8
                      clear HB
                      have HO_8 := n0_
                      have HB := n1_
                      clear n0_ n1_
                      (try clear hb)
                      (try clear hb2)
                      (try clear hk)
                      (try clear hi)
                      refine hK.out _ _ ⟨((HB.out.cell (World.block_lt_of_cell? w _ hw215_0)).trans hw215_0), ((HB.out.cell (World.block_lt_of_cell? w _ hw215_1)).trans hw215_1), ((HB.out.cell (World.block_lt_of_cell? w _ hw215_2)).trans hw215_2), ((HB.out.cell (World.block_lt_of_cell? w _ hw216_0)).trans hw216_0), ((HB.out.cell (World.block_lt_of_cell? w _ hw216_1)).trans hw216_1), ((HB.out.cell (World.block_lt_of_cell? w _ hw216_2)).trans hw216_2), ((HB.out.cell (World.block_lt_of_cell? w _ hw218_0)).trans hw218_0), ((HB.out.cell (World.block_lt_of_cell? w _ hw218_1)).trans hw218_1), ((HB.out.cell (World.block_lt_of_cell? w _ hw218_2)).trans hw218_2), ((HB.out.cell (World.block_lt_of_cell? w _ hw219_0)).trans hw219_0), ((HB.out.cell (World.block_lt_of_cell? w _ hw219_1)).trans hw219_1), ((HB.out.cell (World.block_lt_of_cell? w _ hw219_2)).trans hw219_2), ((HB.out.cell (World.block_lt_of_cell? w _ hw221_0)).trans hw221_0), ((HB.out.cell (World.block_lt_of_cell? w _ hw221_1)).trans hw221_1), ((HB.out.cell (World.block_lt_of_cell? w _ hw221_2)).trans hw221_2), ((HB.out.cell (World.block_lt_of_cell? w _ hw222_0)).trans hw222_0), ((HB.out.cell (World.block_lt_of_cell? w _ hw222_1)).trans hw222_1), ((HB.out.cell (World.block_lt_of_cell? w _ hw222_2)).trans hw222_2)⟩ (fun hHeld => ?_)
                      clear hK K
                      refine norm_ (a' := ?_) ?_ ?_
                      rotate_left
                      · show Act.put _ (some 81) _ = _
                        simp only [Act.put, List.setIfInBounds_toArray, List.set_cons_zero, List.set_cons_succ, i64_w, i32_w]
                        rfl
                      refine one_ (i := 23) (N := some 93) #[true, true, true, true, true, true, true, true, true, true, true, true, true, true, true, true, true, true, true, true, true, true, true, true, true, true, true, true, true, true, true, true, true, true, true, false, false, false] rfl rfl (one_of HT_.out (by kernel_rfl)) (by decide) (fun K hK => ?_)
                      refine goes_ Tryd.func19 (by kernel_rfl) rfl #[.slice (some ad215) l0.length c0, .int .i64 ((rd_T28 l0 x10_3).f0), .slice A215_1 ((rd_T28 l0 x10_3).f1).length c215_1] (by rfl) rfl rfl Cmp.au ?_
                      with_reducible refine (delta_Find.calls k3 _ _ l0 ((rd_T28 l0 x10_3).f0) _ _ ((rd_T28 l0 x10_3).f1) t220 _ ?side1 ?side2 ?side3 ?side4 A95.out).mono ?_
                      (case side1 => exact Cmp.cb (Kd.C_below HR0.out HB.out))
                      (case side2 => exact HC0.out)
                      (case side3 => exact Cmp.cb (Kd.C_below HR219_1.out HB.out))
                      (case side4 => exact HC219_1.out)
                      rintro e w101 ⟨rfl, hb⟩
                      refine ⟨_, rfl, ?_⟩
                      have n0_ := Aside0.mk (Cmp.vb hb HO_8.out)
                      have n1_ := Aside0.mk (below_step (Cmp.bq HB.out) hb)
                      clear HO_8
                      clear HB
                      have HO_8 := n0_
                      have HB := n1_
                      clear n0_ n1_
                      (try clear hb)
                      (try clear hb2)
                      (try clear hk)
                      (try clear hi)
                      refine hK.out _ _ ⟨((HB.out.cell (World.block_lt_of_cell? w _ hw215_0)).trans hw215_0), ((HB.out.cell (World.block_lt_of_cell? w _ hw215_1)).trans hw215_1), ((HB.out.cell (World.block_lt_of_cell? w _ hw215_2)).trans hw215_2), ((HB.out.cell (World.block_lt_of_cell? w _ hw216_0)).trans hw216_0), ((HB.out.cell (World.block_lt_of_cell? w _ hw216_1)).trans hw216_1), ((HB.out.cell (World.block_lt_of_cell? w _ hw216_2)).trans hw216_2), ((HB.out.cell (World.block_lt_of_cell? w _ hw218_0)).trans hw218_0), ((HB.out.cell (World.block_lt_of_cell? w _ hw218_1)).trans hw218_1), ((HB.out.cell (World.block_lt_of_cell? w _ hw218_2)).trans hw218_2), ((HB.out.cell (World.block_lt_of_cell? w _ hw219_0)).trans hw219_0), ((HB.out.cell (World.block_lt_of_cell? w _ hw219_1)).trans hw219_1), ((HB.out.cell (World.block_lt_of_cell? w _ hw219_2)).trans hw219_2), ((HB.out.cell (World.block_lt_of_cell? w _ hw221_0)).trans hw221_0), ((HB.out.cell (World.block_lt_of_cell? w _ hw221_1)).trans hw221_1), ((HB.out.cell (World.block_lt_of_cell? w _ hw221_2)).trans hw221_2), ((HB.out.cell (World.block_lt_of_cell? w _ hw222_0)).trans hw222_0), ((HB.out.cell (World.block_lt_of_cell? w _ hw222_1)).trans hw222_1), ((HB.out.cell (World.block_lt_of_cell? w _ hw222_2)).trans hw222_2)⟩ (fun hHeld => ?_)
                      clear hK K
                      refine norm_ (a' := ?_) ?_ ?_
                      rotate_left
                      · show Act.put _ (some 93) _ = _
                        simp only [Act.put, List.setIfInBounds_toArray, List.set_cons_zero, List.set_cons_succ, i64_w, i32_w]
                        rfl
                      refine one_ (i := 35) (N := some 105) #[true, true, true, true, true, true, true, true, true, true, true, true, true, true, true, true, true, true, true, true, true, true, true, true, true, true, true, true, true, true, true, true, true, true, true, true, false, false] rfl rfl (one_of HT_.out (by kernel_rfl)) (by decide) (fun K hK => ?_)
                      refine goes_ Tryd.func19 (by kernel_rfl) rfl #[.slice A1 l1.length c1, .int .i64 ((rd_T28 l0 x10_3).f0), .slice A215_1 ((rd_T28 l0 x10_3).f1).length c215_1] (by rfl) rfl rfl Cmp.au ?_
                      with_reducible refine (delta_Find.calls k3 _ _ l1 ((rd_T28 l0 x10_3).f0) _ _ ((rd_T28 l0 x10_3).f1) t223 _ ?side1 ?side2 ?side3 ?side4 A96.out).mono ?_
                      (case side1 => exact Cmp.cb (Kd.C_below HR1.out HB.out))
                      (case side2 => exact HC1.out)
                      (case side3 => exact Cmp.cb (Kd.C_below HR222_1.out HB.out))
                      (case side4 => exact HC222_1.out)
                      rintro e w102 ⟨rfl, hb⟩
                      refine ⟨_, rfl, ?_⟩
                      have n0_ := Aside0.mk (Cmp.vb hb HO_8.out)
                      have n1_ := Aside0.mk (below_step (Cmp.bq HB.out) hb)
                      clear HO_8
                      clear HB
                      have HO_8 := n0_
                      have HB := n1_
                      clear n0_ n1_
                      (try clear hb)
                      (try clear hb2)
                      (try clear hk)
                      (try clear hi)
                      refine hK.out _ _ ⟨((HB.out.cell (World.block_lt_of_cell? w _ hw215_0)).trans hw215_0), ((HB.out.cell (World.block_lt_of_cell? w _ hw215_1)).trans hw215_1), ((HB.out.cell (World.block_lt_of_cell? w _ hw215_2)).trans hw215_2), ((HB.out.cell (World.block_lt_of_cell? w _ hw216_0)).trans hw216_0), ((HB.out.cell (World.block_lt_of_cell? w _ hw216_1)).trans hw216_1), ((HB.out.cell (World.block_lt_of_cell? w _ hw216_2)).trans hw216_2), ((HB.out.cell (World.block_lt_of_cell? w _ hw218_0)).trans hw218_0), ((HB.out.cell (World.block_lt_of_cell? w _ hw218_1)).trans hw218_1), ((HB.out.cell (World.block_lt_of_cell? w _ hw218_2)).trans hw218_2), ((HB.out.cell (World.block_lt_of_cell? w _ hw219_0)).trans hw219_0), ((HB.out.cell (World.block_lt_of_cell? w _ hw219_1)).trans hw219_1), ((HB.out.cell (World.block_lt_of_cell? w _ hw219_2)).trans hw219_2), ((HB.out.cell (World.block_lt_of_cell? w _ hw221_0)).trans hw221_0), ((HB.out.cell (World.block_lt_of_cell? w _ hw221_1)).trans hw221_1), ((HB.out.cell (World.block_lt_of_cell? w _ hw221_2)).trans hw221_2), ((HB.out.cell (World.block_lt_of_cell? w _ hw222_0)).trans hw222_0), ((HB.out.cell (World.block_lt_of_cell? w _ hw222_1)).trans hw222_1), ((HB.out.cell (World.block_lt_of_cell? w _ hw222_2)).trans hw222_2)⟩ (fun hHeld => ?_)
                      clear hK K
                      refine norm_ (a' := ?_) ?_ ?_
                      rotate_left
                      · show Act.put _ (some 105) _ = _
                        simp only [Act.put, List.setIfInBounds_toArray, List.set_cons_zero, List.set_cons_succ, i64_w, i32_w]
                        rfl
                      refine pure_ (i := 36) (N := some 106) (v := ?_) (a' := ?_) #[true, true, true, true, true, true, true, true, true, true, true, true, true, true, true, true, true, true, true, true, true, true, true, true, true, true, true, true, true, true, true, true, true, true, true, true, true, false] rfl rfl (any_of HT_.out (by kernel_rfl)) (fun _ _ _ h => h) (Or.inl ⟨by rfl, ?_⟩) ?_ ?_
                      rotate_left
                      · intro w'
                        go_simp
                        with_reducible rfl
                      rotate_left
                      · simp only [Act.put, List.setIfInBounds_toArray, List.set_cons_zero, List.set_cons_succ, i64_w, i32_w]
                        rfl
                      refine pure_ (i := 37) (N := some 107) (v := ?_) (a' := ?_) #[true, true, true, true, true, true, true, true, true, true, true, true, true, true, true, true, true, true, true, true, true, true, true, true, true, true, true, true, true, true, true, true, true, true, true, true, true, true] rfl rfl (any_of HT_.out (by kernel_rfl)) (fun _ _ _ h => h) (Or.inl ⟨by rfl, ?_⟩) ?_ ?_
                      rotate_left
                      · intro w'
                        go_simp
                        with_reducible rfl
                      rotate_left
                      · simp only [Act.put, List.setIfInBounds_toArray, List.set_cons_zero, List.set_cons_succ, i64_w, i32_w]
                        rfl
                      refine done_ (done_of HT_.out (by kernel_rfl)) ?_
                      try go_wp2
                      go_roundg k3
                      case measure => have := HJ4.out; have := HJ19.out; have := HK3.out; omega
                      case rel => exact ⟨(wrap64 (x10_3 + 1)), (by first | rfl | (simp; done) | (simp [*]; done)), H', ⟨by have := HJ4.out; have := HJ19.out; have := HK3.out; omega⟩, ⟨by (with_reducible repeat (first | apply Kd.V_alloc | apply Kd.V_drewN | apply Kd.V_drew)); exact HO_8.out⟩, ⟨by repeat (first | (with_reducible first | exact HB.out | apply below_alloc | apply pw_below_drewN | apply below_drew1) | exact HB.out)⟩⟩
                    · rw [if_neg c97] at H
                      have c97b0 : (t217 == (wrap64 (t220 + t223))) = false := beq_eq_false_iff_ne.mpr c97
                      have c97b1 : (t217 != (wrap64 (t220 + t223))) = true := bne_iff_ne.mpr c97
                      obtain rfl := Option.some.inj H
                      try go_wp2
                      have n0_ := Aside0.mk (Kd.V_drew HO_8.out)
                      have n1_ := Aside0.mk (below_drew1 HB.out)
                      clear HO_8
                      clear HB
                      have HO_8 := n0_
                      have HB := n1_
                      clear n0_ n1_
                      have p215 : 0 ≤ (x10_3 : Int) := of_decide_eq_true (by first | (with_reducible assumption) | assumption)
                      have q215 : x10_3 < (l0.length : Int) := of_decide_eq_true (by first | (with_reducible assumption) | assumption)
                      obtain ⟨ad215, A215_1, c215_1, e215, hx215_0, hx215_1, hx215_2, hl215_1, hi215_1⟩ := at_T28 HR0.out x10_3 p215 q215
                      have hw215_2 := hx215_2
                      have hw215_1 := hx215_1
                      have hw215_0 := hx215_0
                      cases e215
                      replace hx215_0 := (HB.out.cell (World.block_lt_of_cell? w _ hx215_0)).trans hx215_0
                      replace hx215_1 := (HB.out.cell (World.block_lt_of_cell? w _ hx215_1)).trans hx215_1
                      replace hx215_2 := (HB.out.cell (World.block_lt_of_cell? w _ hx215_2)).trans hx215_2
                      have HR215_1 := Aside0.mk hi215_1
                      have HC215_1 := Aside0.mk hl215_1
                      clear hi215_1 hl215_1
                      replace p215 := eq_true p215
                      replace q215 := eq_true q215
                      have p216 : 0 ≤ (x10_3 : Int) := of_decide_eq_true (by first | (with_reducible assumption) | assumption)
                      have q216 : x10_3 < (l0.length : Int) := of_decide_eq_true (by first | (with_reducible assumption) | assumption)
                      obtain ⟨ad216, A216_1, c216_1, e216, hx216_0, hx216_1, hx216_2, hl216_1, hi216_1⟩ := at_T28 HR0.out x10_3 p216 q216
                      have hw216_2 := hx216_2
                      have hw216_1 := hx216_1
                      have hw216_0 := hx216_0
                      obtain rfl : ad215 = ad216 := (by injection e216)
                      replace hx216_0 := (HB.out.cell (World.block_lt_of_cell? w _ hx216_0)).trans hx216_0
                      replace hx216_1 := (HB.out.cell (World.block_lt_of_cell? w _ hx216_1)).trans hx216_1
                      replace hx216_2 := (HB.out.cell (World.block_lt_of_cell? w _ hx216_2)).trans hx216_2
                      have HR216_1 := Aside0.mk hi216_1
                      have HC216_1 := Aside0.mk hl216_1
                      clear hi216_1 hl216_1
                      replace p216 := eq_true p216
                      replace q216 := eq_true q216
                      have ea_ := Option.some.inj (hx215_1.symm.trans hx216_1)
                      injection ea_ with ea_ en_ ec_
                      subst ea_
                      subst ec_
                      clear en_
                      have p218 : 0 ≤ (x10_3 : Int) := of_decide_eq_true (by first | (with_reducible assumption) | assumption)
                      have q218 : x10_3 < (l0.length : Int) := of_decide_eq_true (by first | (with_reducible assumption) | assumption)
                      obtain ⟨ad218, A218_1, c218_1, e218, hx218_0, hx218_1, hx218_2, hl218_1, hi218_1⟩ := at_T28 HR0.out x10_3 p218 q218
                      have hw218_2 := hx218_2
                      have hw218_1 := hx218_1
                      have hw218_0 := hx218_0
                      obtain rfl : ad215 = ad218 := (by injection e218)
                      replace hx218_0 := (HB.out.cell (World.block_lt_of_cell? w _ hx218_0)).trans hx218_0
                      replace hx218_1 := (HB.out.cell (World.block_lt_of_cell? w _ hx218_1)).trans hx218_1
                      replace hx218_2 := (HB.out.cell (World.block_lt_of_cell? w _ hx218_2)).trans hx218_2
                      have HR218_1 := Aside0.mk hi218_1
                      have HC218_1 := Aside0.mk hl218_1
                      clear hi218_1 hl218_1
                      replace p218 := eq_true p218
                      replace q218 := eq_true q218
                      have ea_ := Option.some.inj (hx215_1.symm.trans hx218_1)
                      injection ea_ with ea_ en_ ec_
                      subst ea_
                      subst ec_
                      clear en_
                      have p219 : 0 ≤ (x10_3 : Int) := of_decide_eq_true (by first | (with_reducible assumption) | assumption)
                      have q219 : x10_3 < (l0.length : Int) := of_decide_eq_true (by first | (with_reducible assumption) | assumption)
                      obtain ⟨ad219, A219_1, c219_1, e219, hx219_0, hx219_1, hx219_2, hl219_1, hi219_1⟩ := at_T28 HR0.out x10_3 p219 q219
                      have hw219_2 := hx219_2
                      have hw219_1 := hx219_1
                      have hw219_0 := hx219_0
                      obtain rfl : ad215 = ad219 := (by injection e219)
                      replace hx219_0 := (HB.out.cell (World.block_lt_of_cell? w _ hx219_0)).trans hx219_0
                      replace hx219_1 := (HB.out.cell (World.block_lt_of_cell? w _ hx219_1)).trans hx219_1
                      replace hx219_2 := (HB.out.cell (World.block_lt_of_cell? w _ hx219_2)).trans hx219_2
                      have HR219_1 := Aside0.mk hi219_1
                      have HC219_1 := Aside0.mk hl219_1
                      clear hi219_1 hl219_1
                      replace p219 := eq_true p219
                      replace q219 := eq_true q219
                      have ea_ := Option.some.inj (hx215_1.symm.trans hx219_1)
                      injection ea_ with ea_ en_ ec_
                      subst ea_
                      subst ec_
                      clear en_
                      have p221 : 0 ≤ (x10_3 : Int) := of_decide_eq_true (by first | (with_reducible assumption) | assumption)
                      have q221 : x10_3 < (l0.length : Int) := of_decide_eq_true (by first | (with_reducible assumption) | assumption)
                      obtain ⟨ad221, A221_1, c221_1, e221, hx221_0, hx221_1, hx221_2, hl221_1, hi221_1⟩ := at_T28 HR0.out x10_3 p221 q221
                      have hw221_2 := hx221_2
                      have hw221_1 := hx221_1
                      have hw221_0 := hx221_0
                      obtain rfl : ad215 = ad221 := (by injection e221)
                      replace hx221_0 := (HB.out.cell (World.block_lt_of_cell? w _ hx221_0)).trans hx221_0
                      replace hx221_1 := (HB.out.cell (World.block_lt_of_cell? w _ hx221_1)).trans hx221_1
                      replace hx221_2 := (HB.out.cell (World.block_lt_of_cell? w _ hx221_2)).trans hx221_2
                      have HR221_1 := Aside0.mk hi221_1
                      have HC221_1 := Aside0.mk hl221_1
                      clear hi221_1 hl221_1
                      replace p221 := eq_true p221
                      replace q221 := eq_true q221
                      have ea_ := Option.some.inj (hx215_1.symm.trans hx221_1)
                      injection ea_ with ea_ en_ ec_
                      subst ea_
                      subst ec_
                      clear en_
                      have p222 : 0 ≤ (x10_3 : Int) := of_decide_eq_true (by first | (with_reducible assumption) | assumption)
                      have q222 : x10_3 < (l0.length : Int) := of_decide_eq_true (by first | (with_reducible assumption) | assumption)
                      obtain ⟨ad222, A222_1, c222_1, e222, hx222_0, hx222_1, hx222_2, hl222_1, hi222_1⟩ := at_T28 HR0.out x10_3 p222 q222
                      have hw222_2 := hx222_2
                      have hw222_1 := hx222_1
                      have hw222_0 := hx222_0
                      obtain rfl : ad215 = ad222 := (by injection e222)
                      replace hx222_0 := (HB.out.cell (World.block_lt_of_cell? w _ hx222_0)).trans hx222_0
                      replace hx222_1 := (HB.out.cell (World.block_lt_of_cell? w _ hx222_1)).trans hx222_1
                      replace hx222_2 := (HB.out.cell (World.block_lt_of_cell? w _ hx222_2)).trans hx222_2
                      have HR222_1 := Aside0.mk hi222_1
                      have HC222_1 := Aside0.mk hl222_1
                      clear hi222_1 hl222_1
                      replace p222 := eq_true p222
                      replace q222 := eq_true q222
                      have ea_ := Option.some.inj (hx215_1.symm.trans hx222_1)
                      injection ea_ with ea_ en_ ec_
                      subst ea_
                      subst ec_
                      clear en_
                      obtain ⟨Ao104, co104, eo104⟩ := Kd.V_slice HO_8.out
                      (first | subst eo104 | (injection eo104 with f1_ f2_ f3_; have f4_ := f1_.symm; have f5_ := f3_.symm; clear f1_ f2_ f3_; subst f4_; subst f5_))
                      refine start_ (n := 38) (S := fun w' => w'.cell? (ad215.add ((x10_3).toNat * 3)) = some (.int .i64 ((rd_T28 l0 x10_3).f0)) ∧ w'.cell? ⟨(ad215.add ((x10_3).toNat * 3)).block, (ad215.add ((x10_3).toNat * 3)).off + 1, none⟩ = some (.slice A215_1 ((rd_T28 l0 x10_3).f1).length c215_1) ∧ w'.cell? ⟨(ad215.add ((x10_3).toNat * 3)).block, (ad215.add ((x10_3).toNat * 3)).off + 2, none⟩ = some (.int .i64 ((rd_T28 l0 x10_3).f2)) ∧ w'.cell? (ad215.add ((x10_3).toNat * 3)) = some (.int .i64 ((rd_T28 l0 x10_3).f0)) ∧ w'.cell? ⟨(ad215.add ((x10_3).toNat * 3)).block, (ad215.add ((x10_3).toNat * 3)).off + 1, none⟩ = some (.slice A215_1 ((rd_T28 l0 x10_3).f1).length c215_1) ∧ w'.cell? ⟨(ad215.add ((x10_3).toNat * 3)).block, (ad215.add ((x10_3).toNat * 3)).off + 2, none⟩ = some (.int .i64 ((rd_T28 l0 x10_3).f2)) ∧ w'.cell? (ad215.add ((x10_3).toNat * 3)) = some (.int .i64 ((rd_T28 l0 x10_3).f0)) ∧ w'.cell? ⟨(ad215.add ((x10_3).toNat * 3)).block, (ad215.add ((x10_3).toNat * 3)).off + 1, none⟩ = some (.slice A215_1 ((rd_T28 l0 x10_3).f1).length c215_1) ∧ w'.cell? ⟨(ad215.add ((x10_3).toNat * 3)).block, (ad215.add ((x10_3).toNat * 3)).off + 2, none⟩ = some (.int .i64 ((rd_T28 l0 x10_3).f2)) ∧ w'.cell? (ad215.add ((x10_3).toNat * 3)) = some (.int .i64 ((rd_T28 l0 x10_3).f0)) ∧ w'.cell? ⟨(ad215.add ((x10_3).toNat * 3)).block, (ad215.add ((x10_3).toNat * 3)).off + 1, none⟩ = some (.slice A215_1 ((rd_T28 l0 x10_3).f1).length c215_1) ∧ w'.cell? ⟨(ad215.add ((x10_3).toNat * 3)).block, (ad215.add ((x10_3).toNat * 3)).off + 2, none⟩ = some (.int .i64 ((rd_T28 l0 x10_3).f2)) ∧ w'.cell? (ad215.add ((x10_3).toNat * 3)) = some (.int .i64 ((rd_T28 l0 x10_3).f0)) ∧ w'.cell? ⟨(ad215.add ((x10_3).toNat * 3)).block, (ad215.add ((x10_3).toNat * 3)).off + 1, none⟩ = some (.slice A215_1 ((rd_T28 l0 x10_3).f1).length c215_1) ∧ w'.cell? ⟨(ad215.add ((x10_3).toNat * 3)).block, (ad215.add ((x10_3).toNat * 3)).off + 2, none⟩ = some (.int .i64 ((rd_T28 l0 x10_3).f2)) ∧ w'.cell? (ad215.add ((x10_3).toNat * 3)) = some (.int .i64 ((rd_T28 l0 x10_3).f0)) ∧ w'.cell? ⟨(ad215.add ((x10_3).toNat * 3)).block, (ad215.add ((x10_3).toNat * 3)).off + 1, none⟩ = some (.slice A215_1 ((rd_T28 l0 x10_3).f1).length c215_1) ∧ w'.cell? ⟨(ad215.add ((x10_3).toNat * 3)).block, (ad215.add ((x10_3).toNat * 3)).off + 2, none⟩ = some (.int .i64 ((rd_T28 l0 x10_3).f2))) (ds := []) #[false, false, false, false, false, false, false, false, false, false, false, false, false, false, false, false, false, false, false, false, false, false, false, false, false, false, false, false, false, false, false, false, false, false, false, false, false, false] (by kernel_rfl) rfl rfl ⟨((HB.out.cell (World.block_lt_of_cell? w _ hw215_0)).trans hw215_0), ((HB.out.cell (World.block_lt_of_cell? w _ hw215_1)).trans hw215_1), ((HB.out.cell (World.block_lt_of_cell? w _ hw215_2)).trans hw215_2), ((HB.out.cell (World.block_lt_of_cell? w _ hw216_0)).trans hw216_0), ((HB.out.cell (World.block_lt_of_cell? w _ hw216_1)).trans hw216_1), ((HB.out.cell (World.block_lt_of_cell? w _ hw216_2)).trans hw216_2), ((HB.out.cell (World.block_lt_of_cell? w _ hw218_0)).trans hw218_0), ((HB.out.cell (World.block_lt_of_cell? w _ hw218_1)).trans hw218_1), ((HB.out.cell (World.block_lt_of_cell? w _ hw218_2)).trans hw218_2), ((HB.out.cell (World.block_lt_of_cell? w _ hw219_0)).trans hw219_0), ((HB.out.cell (World.block_lt_of_cell? w _ hw219_1)).trans hw219_1), ((HB.out.cell (World.block_lt_of_cell? w _ hw219_2)).trans hw219_2), ((HB.out.cell (World.block_lt_of_cell? w _ hw221_0)).trans hw221_0), ((HB.out.cell (World.block_lt_of_cell? w _ hw221_1)).trans hw221_1), ((HB.out.cell (World.block_lt_of_cell? w _ hw221_2)).trans hw221_2), ((HB.out.cell (World.block_lt_of_cell? w _ hw222_0)).trans hw222_0), ((HB.out.cell (World.block_lt_of_cell? w _ hw222_1)).trans hw222_1), ((HB.out.cell (World.block_lt_of_cell? w _ hw222_2)).trans hw222_2)⟩ (fun hHeld => ?_); refine with_tabW erratalaw28_DeltaGroup.tab9 erratalaw28_DeltaGroup.bits9 (fun HT_ HW_ => ?_)
                      generalize wr.drew = w103 at HO_8 HB HR215_1 HR216_1 HR218_1 HR219_1 HR221_1 HR222_1 hx215_0 hx215_1 hx215_2 hx216_0 hx216_1 hx216_2 hx218_0 hx218_1 hx218_2 hx219_0 hx219_1 hx219_2 hx221_0 hx221_1 hx221_2 hx222_0 hx222_1 hx222_2 hHeld ⊢
                      refine pure_ (i := 0) (N := some 70) (v := ?_) (a' := ?_) #[true, false, false, false, false, false, false, false, false, false, false, false, false, false, false, false, false, false, false, false, false, false, false, false, false, false, false, false, false, false, false, false, false, false, false, false, false, false] rfl rfl (any_of HT_.out (by kernel_rfl)) (fun _ _ _ h => h) (Or.inl ⟨by rfl, ?_⟩) ?_ ?_
                      rotate_left
                      · intro w'
                        go_simp
                        with_reducible rfl
                      rotate_left
                      · simp only [Act.put, List.setIfInBounds_toArray, List.set_cons_zero, List.set_cons_succ, i64_w, i32_w]
                        rfl
                      refine pure_ (i := 1) (N := some 71) (v := ?_) (a' := ?_) #[true, true, false, false, false, false, false, false, false, false, false, false, false, false, false, false, false, false, false, false, false, false, false, false, false, false, false, false, false, false, false, false, false, false, false, false, false, false] rfl rfl (any_of HT_.out (by kernel_rfl)) (fun _ _ _ h => h) (Or.inl ⟨by rfl, ?_⟩) ?_ ?_
                      rotate_left
                      · intro w'
                        go_simp
                        with_reducible rfl
                      rotate_left
                      · simp only [Act.put, List.setIfInBounds_toArray, List.set_cons_zero, List.set_cons_succ, i64_w, i32_w]
                        rfl
                      refine pure_ (i := 2) (N := some 72) (v := ?_) (a' := ?_) #[true, true, true, false, false, false, false, false, false, false, false, false, false, false, false, false, false, false, false, false, false, false, false, false, false, false, false, false, false, false, false, false, false, false, false, false, false, false] rfl rfl (any_of HT_.out (by kernel_rfl)) (fun _ _ _ h => h) (Or.inl ⟨by rfl, ?_⟩) ?_ ?_
                      rotate_left
                      · intro w'
                        go_simp
                        with_reducible rfl
                      rotate_left
                      · simp only [Act.put, List.setIfInBounds_toArray, List.set_cons_zero, List.set_cons_succ, i64_w, i32_w]
                        rfl
                      refine pure_ (i := 3) (N := some 73) (v := ?_) (a' := ?_) #[true, true, true, true, false, false, false, false, false, false, false, false, false, false, false, false, false, false, false, false, false, false, false, false, false, false, false, false, false, false, false, false, false, false, false, false, false, false] rfl rfl (any_of HT_.out (by kernel_rfl)) (fun _ _ _ h => h) (Or.inl ⟨by rfl, ?_⟩) ?_ ?_
                      rotate_left
                      · intro w'
                        go_simp
                        with_reducible rfl
                      rotate_left
                      · simp only [Act.put, List.setIfInBounds_toArray, List.set_cons_zero, List.set_cons_succ, i64_w, i32_w]
                        rfl
                      refine pure_ (i := 4) (N := some 74) (v := ?_) (a' := ?_) #[true, true, true, true, true, false, false, false, false, false, false, false, false, false, false, false, false, false, false, false, false, false, false, false, false, false, false, false, false, false, false, false, false, false, false, false, false, false] rfl rfl (any_of HT_.out (by kernel_rfl)) (fun _ _ _ h => h) (Or.inl ⟨by rfl, ?_⟩) ?_ ?_
                      rotate_left
                      · intro w'
                        go_simp
                        with_reducible rfl
                      rotate_left
                      · simp only [Act.put, List.setIfInBounds_toArray, List.set_cons_zero, List.set_cons_succ, i64_w, i32_w]
                        rfl
                      refine pure_ (i := 6) (N := some 76) (v := ?_) (a' := ?_) #[true, true, true, true, true, false, true, false, false, false, false, false, false, false, false, false, false, false, false, false, false, false, false, false, false, false, false, false, false, false, false, false, false, false, false, false, false, false] rfl rfl (any_of HT_.out (by kernel_rfl)) (fun _ _ _ h => h) (Or.inl ⟨by rfl, ?_⟩) ?_ ?_
                      rotate_left
                      · intro w'
                        go_simp
                        with_reducible rfl
                      rotate_left
                      · simp only [Act.put, List.setIfInBounds_toArray, List.set_cons_zero, List.set_cons_succ, i64_w, i32_w]
                        rfl
                      refine pure_ (i := 7) (N := some 77) (v := ?_) (a' := ?_) #[true, true, true, true, true, false, true, true, false, false, false, false, false, false, false, false, false, false, false, false, false, false, false, false, false, false, false, false, false, false, false, false, false, false, false, false, false, false] rfl rfl (any_of HT_.out (by kernel_rfl)) (fun _ _ _ h => h) (Or.inl ⟨by rfl, ?_⟩) ?_ ?_
                      rotate_left
                      · intro w'
                        go_simp
                        with_reducible rfl
                      rotate_left
                      · simp only [Act.put, List.setIfInBounds_toArray, List.set_cons_zero, List.set_cons_succ, i64_w, i32_w]
                        rfl
                      refine pure_ (i := 8) (N := some 78) (v := ?_) (a' := ?_) #[true, true, true, true, true, false, true, true, true, false, false, false, false, false, false, false, false, false, false, false, false, false, false, false, false, false, false, false, false, false, false, false, false, false, false, false, false, false] rfl rfl (any_of HT_.out (by kernel_rfl)) (fun _ _ _ h => h) (Or.inl ⟨by rfl, ?_⟩) ?_ ?_
                      rotate_left
                      · intro w'
                        go_simp
                        with_reducible rfl
                      rotate_left
                      · simp only [Act.put, List.setIfInBounds_toArray, List.set_cons_zero, List.set_cons_succ, i64_w, i32_w]
                        rfl
                      refine pure_ (i := 9) (N := some 79) (v := ?_) (a' := ?_) #[true, true, true, true, true, false, true, true, true, true, false, false, false, false, false, false, false, false, false, false, false, false, false, false, false, false, false, false, false, false, false, false, false, false, false, false, false, false] rfl rfl (any_of HT_.out (by kernel_rfl)) (fun _ _ _ h => h) (Or.inl ⟨by rfl, ?_⟩) ?_ ?_
                      rotate_left
                      · intro w'
                        go_simp
                        with_reducible rfl
                      rotate_left
                      · simp only [Act.put, List.setIfInBounds_toArray, List.set_cons_zero, List.set_cons_succ, i64_w, i32_w]
                        rfl
                      refine pure_ (i := 12) (N := some 82) (v := ?_) (a' := ?_) #[true, true, true, true, true, false, true, true, true, true, false, false, true, false, false, false, false, false, false, false, false, false, false, false, false, false, false, false, false, false, false, false, false, false, false, false, false, false] rfl rfl (any_of HT_.out (by kernel_rfl)) (fun _ _ _ h => h) (Or.inl ⟨by rfl, ?_⟩) ?_ ?_
                      rotate_left
                      · intro w'
                        go_simp
                        with_reducible rfl
                      rotate_left
                      · simp only [Act.put, List.setIfInBounds_toArray, List.set_cons_zero, List.set_cons_succ, i64_w, i32_w]
                        rfl
                      refine pure_ (i := 13) (N := some 83) (v := ?_) (a' := ?_) #[true, true, true, true, true, false, true, true, true, true, false, false, true, true, false, false, false, false, false, false, false, false, false, false, false, false, false, false, false, false, false, false, false, false, false, false, false, false] rfl rfl (any_of HT_.out (by kernel_rfl)) (fun _ _ _ h => h) (Or.inl ⟨by rfl, ?_⟩) ?_ ?_
                      rotate_left
                      · intro w'
                        go_simp
                        with_reducible rfl
                      rotate_left
                      · simp only [Act.put, List.setIfInBounds_toArray, List.set_cons_zero, List.set_cons_succ, i64_w, i32_w]
                        rfl
                      refine pure_ (i := 14) (N := some 84) (v := ?_) (a' := ?_) #[true, true, true, true, true, false, true, true, true, true, false, false, true, true, true, false, false, false, false, false, false, false, false, false, false, false, false, false, false, false, false, false, false, false, false, false, false, false] rfl rfl (any_of HT_.out (by kernel_rfl)) (fun _ _ _ h => h) (Or.inl ⟨by rfl, ?_⟩) ?_ ?_
                      rotate_left
                      · intro w'
                        go_simp
                        with_reducible rfl
                      rotate_left
                      · simp only [Act.put, List.setIfInBounds_toArray, List.set_cons_zero, List.set_cons_succ, i64_w, i32_w]
                        rfl
                      refine pure_ (i := 15) (N := some 85) (v := ?_) (a' := ?_) #[true, true, true, true, true, false, true, true, true, true, false, false, true, true, true, true, false, false, false, false, false, false, false, false, false, false, false, false, false, false, false, false, false, false, false, false, false, false] rfl rfl (any_of HT_.out (by kernel_rfl)) (fun _ _ _ h => h) (Or.inl ⟨by rfl, ?_⟩) ?_ ?_
                      rotate_left
                      · intro w'
                        go_simp
                        with_reducible rfl
                      rotate_left
                      · simp only [Act.put, List.setIfInBounds_toArray, List.set_cons_zero, List.set_cons_succ, i64_w, i32_w]
                        rfl
                      refine pure_ (i := 16) (N := some 86) (v := ?_) (a' := ?_) #[true, true, true, true, true, false, true, true, true, true, false, false, true, true, true, true, true, false, false, false, false, false, false, false, false, false, false, false, false, false, false, false, false, false, false, false, false, false] rfl rfl (any_of HT_.out (by kernel_rfl)) (fun _ _ _ h => h) (Or.inl ⟨by rfl, ?_⟩) ?_ ?_
                      rotate_left
                      · intro w'
                        go_simp
                        with_reducible rfl
                      rotate_left
                      · simp only [Act.put, List.setIfInBounds_toArray, List.set_cons_zero, List.set_cons_succ, i64_w, i32_w]
                        rfl
                      refine pure_ (i := 18) (N := some 88) (v := ?_) (a' := ?_) #[true, true, true, true, true, false, true, true, true, true, false, false, true, true, true, true, true, false, true, false, false, false, false, false, false, false, false, false, false, false, false, false, false, false, false, false, false, false] rfl rfl (any_of HT_.out (by kernel_rfl)) (fun _ _ _ h => h) (Or.inl ⟨by rfl, ?_⟩) ?_ ?_
                      rotate_left
                      · intro w'
                        go_simp
                        with_reducible rfl
                      rotate_left
                      · simp only [Act.put, List.setIfInBounds_toArray, List.set_cons_zero, List.set_cons_succ, i64_w, i32_w]
                        rfl
                      refine pure_ (i := 19) (N := some 89) (v := ?_) (a' := ?_) #[true, true, true, true, true, false, true, true, true, true, false, false, true, true, true, true, true, false, true, true, false, false, false, false, false, false, false, false, false, false, false, false, false, false, false, false, false, false] rfl rfl (any_of HT_.out (by kernel_rfl)) (fun _ _ _ h => h) (Or.inl ⟨by rfl, ?_⟩) ?_ ?_
                      rotate_left
                      · intro w'
                        go_simp
                        with_reducible rfl
                      rotate_left
                      · simp only [Act.put, List.setIfInBounds_toArray, List.set_cons_zero, List.set_cons_succ, i64_w, i32_w]
                        rfl
                      refine pure_ (i := 20) (N := some 90) (v := ?_) (a' := ?_) #[true, true, true, true, true, false, true, true, true, true, false, false, true, true, true, true, true, false, true, true, true, false, false, false, false, false, false, false, false, false, false, false, false, false, false, false, false, false] rfl rfl (any_of HT_.out (by kernel_rfl)) (fun _ _ _ h => h) (Or.inl ⟨by rfl, ?_⟩) ?_ ?_
                      rotate_left
                      · intro w'
                        go_simp
                        with_reducible rfl
                      rotate_left
                      · simp only [Act.put, List.setIfInBounds_toArray, List.set_cons_zero, List.set_cons_succ, i64_w, i32_w]
                        rfl
                      refine pure_ (i := 21) (N := some 91) (v := ?_) (a' := ?_) #[true, true, true, true, true, false, true, true, true, true, false, false, true, true, true, true, true, false, true, true, true, true, false, false, false, false, false, false, false, false, false, false, false, false, false, false, false, false] rfl rfl (any_of HT_.out (by kernel_rfl)) (fun _ _ _ h => h) (Or.inl ⟨by rfl, ?_⟩) ?_ ?_
                      rotate_left
                      · intro w'
                        go_simp
                        with_reducible rfl
                      rotate_left
                      · simp only [Act.put, List.setIfInBounds_toArray, List.set_cons_zero, List.set_cons_succ, i64_w, i32_w]
                        rfl
                      refine pure_ (i := 24) (N := some 94) (v := ?_) (a' := ?_) #[true, true, true, true, true, false, true, true, true, true, false, false, true, true, true, true, true, false, true, true, true, true, false, false, true, false, false, false, false, false, false, false, false, false, false, false, false, false] rfl rfl (any_of HT_.out (by kernel_rfl)) (fun _ _ _ h => h) (Or.inl ⟨by rfl, ?_⟩) ?_ ?_
                      rotate_left
                      · intro w'
                        go_simp
                        with_reducible rfl
                      rotate_left
                      · simp only [Act.put, List.setIfInBounds_toArray, List.set_cons_zero, List.set_cons_succ, i64_w, i32_w]
                        rfl
                      refine pure_ (i := 25) (N := some 95) (v := ?_) (a' := ?_) #[true, true, true, true, true, false, true, true, true, true, false, false, true, true, true, true, true, false, true, true, true, true, false, false, true, true, false, false, false, false, false, false, false, false, false, false, false, false] rfl rfl (any_of HT_.out (by kernel_rfl)) (fun _ _ _ h => h) (Or.inl ⟨by rfl, ?_⟩) ?_ ?_
                      rotate_left
                      · intro w'
                        go_simp
                        with_reducible rfl
                      rotate_left
                      · simp only [Act.put, List.setIfInBounds_toArray, List.set_cons_zero, List.set_cons_succ, i64_w, i32_w]
                        rfl
                      refine pure_ (i := 26) (N := some 96) (v := ?_) (a' := ?_) #[true, true, true, true, true, false, true, true, true, true, false, false, true, true, true, true, true, false, true, true, true, true, false, false, true, true, true, false, false, false, false, false, false, false, false, false, false, false] rfl rfl (any_of HT_.out (by kernel_rfl)) (fun _ _ _ h => h) (Or.inl ⟨by rfl, ?_⟩) ?_ ?_
                      rotate_left
                      · intro w'
                        go_simp
                        with_reducible rfl
                      rotate_left
                      · simp only [Act.put, List.setIfInBounds_toArray, List.set_cons_zero, List.set_cons_succ, i64_w, i32_w]
                        rfl
                      refine pure_ (i := 27) (N := some 97) (v := ?_) (a' := ?_) #[true, true, true, true, true, false, true, true, true, true, false, false, true, true, true, true, true, false, true, true, true, true, false, false, true, true, true, true, false, false, false, false, false, false, false, false, false, false] rfl rfl (any_of HT_.out (by kernel_rfl)) (fun _ _ _ h => h) (Or.inl ⟨by rfl, ?_⟩) ?_ ?_
                      rotate_left
                      · intro w'
                        go_simp
                        with_reducible rfl
                      rotate_left
                      · simp only [Act.put, List.setIfInBounds_toArray, List.set_cons_zero, List.set_cons_succ, i64_w, i32_w]
                        rfl
                      refine pure_ (i := 28) (N := some 98) (v := ?_) (a' := ?_) #[true, true, true, true, true, false, true, true, true, true, false, false, true, true, true, true, true, false, true, true, true, true, false, false, true, true, true, true, true, false, false, false, false, false, false, false, false, false] rfl rfl (any_of HT_.out (by kernel_rfl)) (fun _ _ _ h => h) (Or.inl ⟨by rfl, ?_⟩) ?_ ?_
                      rotate_left
                      · intro w'
                        go_simp
                        with_reducible rfl
                      rotate_left
                      · simp only [Act.put, List.setIfInBounds_toArray, List.set_cons_zero, List.set_cons_succ, i64_w, i32_w]
                        rfl
                      refine pure_ (i := 30) (N := some 100) (v := ?_) (a' := ?_) #[true, true, true, true, true, false, true, true, true, true, false, false, true, true, true, true, true, false, true, true, true, true, false, false, true, true, true, true, true, false, true, false, false, false, false, false, false, false] rfl rfl (any_of HT_.out (by kernel_rfl)) (fun _ _ _ h => h) (Or.inl ⟨by rfl, ?_⟩) ?_ ?_
                      rotate_left
                      · intro w'
                        go_simp
                        with_reducible rfl
                      rotate_left
                      · simp only [Act.put, List.setIfInBounds_toArray, List.set_cons_zero, List.set_cons_succ, i64_w, i32_w]
                        rfl
                      refine pure_ (i := 31) (N := some 101) (v := ?_) (a' := ?_) #[true, true, true, true, true, false, true, true, true, true, false, false, true, true, true, true, true, false, true, true, true, true, false, false, true, true, true, true, true, false, true, true, false, false, false, false, false, false] rfl rfl (any_of HT_.out (by kernel_rfl)) (fun _ _ _ h => h) (Or.inl ⟨by rfl, ?_⟩) ?_ ?_
                      rotate_left
                      · intro w'
                        go_simp
                        with_reducible rfl
                      rotate_left
                      · simp only [Act.put, List.setIfInBounds_toArray, List.set_cons_zero, List.set_cons_succ, i64_w, i32_w]
                        rfl
                      refine pure_ (i := 32) (N := some 102) (v := ?_) (a' := ?_) #[true, true, true, true, true, false, true, true, true, true, false, false, true, true, true, true, true, false, true, true, true, true, false, false, true, true, true, true, true, false, true, true, true, false, false, false, false, false] rfl rfl (any_of HT_.out (by kernel_rfl)) (fun _ _ _ h => h) (Or.inl ⟨by rfl, ?_⟩) ?_ ?_
                      rotate_left
                      · intro w'
                        go_simp
                        with_reducible rfl
                      rotate_left
                      · simp only [Act.put, List.setIfInBounds_toArray, List.set_cons_zero, List.set_cons_succ, i64_w, i32_w]
                        rfl
                      refine pure_ (i := 33) (N := some 103) (v := ?_) (a' := ?_) #[true, true, true, true, true, false, true, true, true, true, false, false, true, true, true, true, true, false, true, true, true, true, false, false, true, true, true, true, true, false, true, true, true, true, false, false, false, false] rfl rfl (any_of HT_.out (by kernel_rfl)) (fun _ _ _ h => h) (Or.inl ⟨by rfl, ?_⟩) ?_ ?_
                      rotate_left
                      · intro w'
                        go_simp
                        with_reducible rfl
                      rotate_left
                      · simp only [Act.put, List.setIfInBounds_toArray, List.set_cons_zero, List.set_cons_succ, i64_w, i32_w]
                        rfl
                      refine take_ (i := 5) (N := some 75) (v := ?_) (a' := ?_) #[true, true, true, true, true, true, true, true, true, true, false, false, true, true, true, true, true, false, true, true, true, true, false, false, true, true, true, true, true, false, true, true, true, true, false, false, false, false] rfl rfl (take_ofW HT_.out HW_.out (by kernel_rfl)) (fun _ _ _ h => h) (Or.inl ⟨by rfl, ?_⟩) hHeld ?_ ?_
                      rotate_left
                      · rintro w' ⟨s0, s1, s2, s3, s4, s5, s6, s7, s8, s9, s10, s11, s12, s13, s14, s15, s16, s17⟩
                        go_simp
                        with_reducible rfl
                      rotate_left
                      · simp only [Act.put, List.setIfInBounds_toArray, List.set_cons_zero, List.set_cons_succ, i64_w, i32_w]
                        rfl
                      refine take_ (i := 10) (N := some 80) (v := ?_) (a' := ?_) #[true, true, true, true, true, true, true, true, true, true, true, false, true, true, true, true, true, false, true, true, true, true, false, false, true, true, true, true, true, false, true, true, true, true, false, false, false, false] rfl rfl (take_ofW HT_.out HW_.out (by kernel_rfl)) (fun _ _ _ h => h) (Or.inl ⟨by rfl, ?_⟩) hHeld ?_ ?_
                      rotate_left
                      · rintro w' ⟨s0, s1, s2, s3, s4, s5, s6, s7, s8, s9, s10, s11, s12, s13, s14, s15, s16, s17⟩
                        go_simp
                        with_reducible rfl
                      rotate_left
                      · simp only [Act.put, List.setIfInBounds_toArray, List.set_cons_zero, List.set_cons_succ, i64_w, i32_w]
                        rfl
                      refine take_ (i := 17) (N := some 87) (v := ?_) (a' := ?_) #[true, true, true, true, true, true, true, true, true, true, true, false, true, true, true, true, true, true, true, true, true, true, false, false, true, true, true, true, true, false, true, true, true, true, false, false, false, false] rfl rfl (take_ofW HT_.out HW_.out (by kernel_rfl)) (fun _ _ _ h => h) (Or.inl ⟨by rfl, ?_⟩) hHeld ?_ ?_
                      rotate_left
                      · rintro w' ⟨s0, s1, s2, s3, s4, s5, s6, s7, s8, s9, s10, s11, s12, s13, s14, s15, s16, s17⟩
                        go_simp
                        with_reducible rfl
                      rotate_left
                      · simp only [Act.put, List.setIfInBounds_toArray, List.set_cons_zero, List.set_cons_succ, i64_w, i32_w]
                        rfl
                      refine take_ (i := 22) (N := some 92) (v := ?_) (a' := ?_) #[true, true, true, true, true, true, true, true, true, true, true, false, true, true, true, true, true, true, true, true, true, true, true, false, true, true, true, true, true, false, true, true, true, true, false, false, false, false] rfl rfl (take_ofW HT_.out HW_.out (by kernel_rfl)) (fun _ _ _ h => h) (Or.inl ⟨by rfl, ?_⟩) hHeld ?_ ?_
                      rotate_left
                      · rintro w' ⟨s0, s1, s2, s3, s4, s5, s6, s7, s8, s9, s10, s11, s12, s13, s14, s15, s16, s17⟩
                        go_simp
                        with_reducible rfl
                      rotate_left
                      · simp only [Act.put, List.setIfInBounds_toArray, List.set_cons_zero, List.set_cons_succ, i64_w, i32_w]
                        rfl
                      refine take_ (i := 29) (N := some 99) (v := ?_) (a' := ?_) #[true, true, true, true, true, true, true, true, true, true, true, false, true, true, true, true, true, true, true, true, true, true, true, false, true, true, true, true, true, true, true, true, true, true, false, false, false, false] rfl rfl (take_ofW HT_.out HW_.out (by kernel_rfl)) (fun _ _ _ h => h) (Or.inl ⟨by rfl, ?_⟩) hHeld ?_ ?_
                      rotate_left
                      · rintro w' ⟨s0, s1, s2, s3, s4, s5, s6, s7, s8, s9, s10, s11, s12, s13, s14, s15, s16, s17⟩
                        go_simp
                        with_reducible rfl
                      rotate_left
                      · simp only [Act.put, List.setIfInBounds_toArray, List.set_cons_zero, List.set_cons_succ, i64_w, i32_w]
                        rfl
                      refine take_ (i := 34) (N := some 104) (v := ?_) (a' := ?_) #[true, true, true, true, true, true, true, true, true, true, true, false, true, true, true, true, true, true, true, true, true, true, true, false, true, true, true, true, true, true, true, true, true, true, true, false, false, false] rfl rfl (take_ofW HT_.out HW_.out (by kernel_rfl)) (fun _ _ _ h => h) (Or.inl ⟨by rfl, ?_⟩) hHeld ?_ ?_
                      rotate_left
                      · rintro w' ⟨s0, s1, s2, s3, s4, s5, s6, s7, s8, s9, s10, s11, s12, s13, s14, s15, s16, s17⟩
                        go_simp
                        with_reducible rfl
                      rotate_left
                      · simp only [Act.put, List.setIfInBounds_toArray, List.set_cons_zero, List.set_cons_succ, i64_w, i32_w]
                        rfl
                      refine one_ (i := 11) (N := some 81) #[true, true, true, true, true, true, true, true, true, true, true, true, true, true, true, true, true, true, true, true, true, true, true, false, true, true, true, true, true, true, true, true, true, true, true, false, false, false] rfl rfl (one_of HT_.out (by kernel_rfl)) (by decide) (fun K hK => ?_)
                      refine goes_ Tryd.func19 (by kernel_rfl) rfl #[.slice Ao104 t187.length co104, .int .i64 ((rd_T28 l0 x10_3).f0), .slice A215_1 ((rd_T28 l0 x10_3).f1).length c215_1] (by rfl) rfl rfl Cmp.au ?_
                      with_reducible refine (delta_Find.calls k3 _ _ t187 ((rd_T28 l0 x10_3).f0) _ _ ((rd_T28 l0 x10_3).f1) t217 _ ?side1 ?side2 ?side3 ?side4 A94.out).mono ?_
                      (case side1 => repeat (first | exact (Kd.V_reads' HO_8.out).2.2 | (with_reducible refine Kd.C_alloc ?_ _) | (with_reducible refine Kd.C_drewN ?_ _) | (with_reducible refine Kd.C_drew ?_)))
                      (case side2 => exact (Kd.V_reads' HO_8.out).2.1)
                      (case side3 => exact Cmp.cb (Kd.C_below HR216_1.out HB.out))
                      (case side4 => exact HC216_1.out)
                      rintro e w105 ⟨rfl, hb⟩
                      refine ⟨_, rfl, ?_⟩
                      have n0_ := Aside0.mk (Cmp.vb hb HO_8.out)
                      have n1_ := Aside0.mk (below_step (Cmp.bq HB.out) hb)
                      clear HO_8
                      clear HB
                      have HO_8 := n0_
                      have HB := n1_
                      clear n0_ n1_
                      (try clear hb)
                      (try clear hb2)
                      (try clear hk)
                      (try clear hi)
                      refine hK.out _ _ ⟨((HB.out.cell (World.block_lt_of_cell? w _ hw215_0)).trans hw215_0), ((HB.out.cell (World.block_lt_of_cell? w _ hw215_1)).trans hw215_1), ((HB.out.cell (World.block_lt_of_cell? w _ hw215_2)).trans hw215_2), ((HB.out.cell (World.block_lt_of_cell? w _ hw216_0)).trans hw216_0), ((HB.out.cell (World.block_lt_of_cell? w _ hw216_1)).trans hw216_1), ((HB.out.cell (World.block_lt_of_cell? w _ hw216_2)).trans hw216_2), ((HB.out.cell (World.block_lt_of_cell? w _ hw218_0)).trans hw218_0), ((HB.out.cell (World.block_lt_of_cell? w _ hw218_1)).trans hw218_1), ((HB.out.cell (World.block_lt_of_cell? w _ hw218_2)).trans hw218_2), ((HB.out.cell (World.block_lt_of_cell? w _ hw219_0)).trans hw219_0), ((HB.out.cell (World.block_lt_of_cell? w _ hw219_1)).trans hw219_1), ((HB.out.cell (World.block_lt_of_cell? w _ hw219_2)).trans hw219_2), ((HB.out.cell (World.block_lt_of_cell? w _ hw221_0)).trans hw221_0), ((HB.out.cell (World.block_lt_of_cell? w _ hw221_1)).trans hw221_1), ((HB.out.cell (World.block_lt_of_cell? w _ hw221_2)).trans hw221_2), ((HB.out.cell (World.block_lt_of_cell? w _ hw222_0)).trans hw222_0), ((HB.out.cell (World.block_lt_of_cell? w _ hw222_1)).trans hw222_1), ((HB.out.cell (World.block_lt_of_cell? w _ hw222_2)).trans hw222_2)⟩ (fun hHeld => ?_)
                      clear hK K
                      refine norm_ (a' := ?_) ?_ ?_
                      rotate_left
                      · show Act.put _ (some 81) _ = _
                        simp only [Act.put, List.setIfInBounds_toArray, List.set_cons_zero, List.set_cons_succ, i64_w, i32_w]
                        rfl
                      refine one_ (i := 23) (N := some 93) #[true, true, true, true, true, true, true, true, true, true, true, true, true, true, true, true, true, true, true, true, true, true, true, true, true, true, true, true, true, true, true, true, true, true, true, false, false, false] rfl rfl (one_of HT_.out (by kernel_rfl)) (by decide) (fun K hK => ?_)
                      refine goes_ Tryd.func19 (by kernel_rfl) rfl #[.slice (some ad215) l0.length c0, .int .i64 ((rd_T28 l0 x10_3).f0), .slice A215_1 ((rd_T28 l0 x10_3).f1).length c215_1] (by rfl) rfl rfl Cmp.au ?_
                      with_reducible refine (delta_Find.calls k3 _ _ l0 ((rd_T28 l0 x10_3).f0) _ _ ((rd_T28 l0 x10_3).f1) t220 _ ?side1 ?side2 ?side3 ?side4 A95.out).mono ?_
                      (case side1 => exact Cmp.cb (Kd.C_below HR0.out HB.out))
                      (case side2 => exact HC0.out)
                      (case side3 => exact Cmp.cb (Kd.C_below HR219_1.out HB.out))
                      (case side4 => exact HC219_1.out)
                      rintro e w106 ⟨rfl, hb⟩
                      refine ⟨_, rfl, ?_⟩
                      have n0_ := Aside0.mk (Cmp.vb hb HO_8.out)
                      have n1_ := Aside0.mk (below_step (Cmp.bq HB.out) hb)
                      clear HO_8
                      clear HB
                      have HO_8 := n0_
                      have HB := n1_
                      clear n0_ n1_
                      (try clear hb)
                      (try clear hb2)
                      (try clear hk)
                      (try clear hi)
                      refine hK.out _ _ ⟨((HB.out.cell (World.block_lt_of_cell? w _ hw215_0)).trans hw215_0), ((HB.out.cell (World.block_lt_of_cell? w _ hw215_1)).trans hw215_1), ((HB.out.cell (World.block_lt_of_cell? w _ hw215_2)).trans hw215_2), ((HB.out.cell (World.block_lt_of_cell? w _ hw216_0)).trans hw216_0), ((HB.out.cell (World.block_lt_of_cell? w _ hw216_1)).trans hw216_1), ((HB.out.cell (World.block_lt_of_cell? w _ hw216_2)).trans hw216_2), ((HB.out.cell (World.block_lt_of_cell? w _ hw218_0)).trans hw218_0), ((HB.out.cell (World.block_lt_of_cell? w _ hw218_1)).trans hw218_1), ((HB.out.cell (World.block_lt_of_cell? w _ hw218_2)).trans hw218_2), ((HB.out.cell (World.block_lt_of_cell? w _ hw219_0)).trans hw219_0), ((HB.out.cell (World.block_lt_of_cell? w _ hw219_1)).trans hw219_1), ((HB.out.cell (World.block_lt_of_cell? w _ hw219_2)).trans hw219_2), ((HB.out.cell (World.block_lt_of_cell? w _ hw221_0)).trans hw221_0), ((HB.out.cell (World.block_lt_of_cell? w _ hw221_1)).trans hw221_1), ((HB.out.cell (World.block_lt_of_cell? w _ hw221_2)).trans hw221_2), ((HB.out.cell (World.block_lt_of_cell? w _ hw222_0)).trans hw222_0), ((HB.out.cell (World.block_lt_of_cell? w _ hw222_1)).trans hw222_1), ((HB.out.cell (World.block_lt_of_cell? w _ hw222_2)).trans hw222_2)⟩ (fun hHeld => ?_)
                      clear hK K
                      refine norm_ (a' := ?_) ?_ ?_
                      rotate_left
                      · show Act.put _ (some 93) _ = _
                        simp only [Act.put, List.setIfInBounds_toArray, List.set_cons_zero, List.set_cons_succ, i64_w, i32_w]
                        rfl
                      refine one_ (i := 35) (N := some 105) #[true, true, true, true, true, true, true, true, true, true, true, true, true, true, true, true, true, true, true, true, true, true, true, true, true, true, true, true, true, true, true, true, true, true, true, true, false, false] rfl rfl (one_of HT_.out (by kernel_rfl)) (by decide) (fun K hK => ?_)
                      refine goes_ Tryd.func19 (by kernel_rfl) rfl #[.slice A1 l1.length c1, .int .i64 ((rd_T28 l0 x10_3).f0), .slice A215_1 ((rd_T28 l0 x10_3).f1).length c215_1] (by rfl) rfl rfl Cmp.au ?_
                      with_reducible refine (delta_Find.calls k3 _ _ l1 ((rd_T28 l0 x10_3).f0) _ _ ((rd_T28 l0 x10_3).f1) t223 _ ?side1 ?side2 ?side3 ?side4 A96.out).mono ?_
                      (case side1 => exact Cmp.cb (Kd.C_below HR1.out HB.out))
                      (case side2 => exact HC1.out)
                      (case side3 => exact Cmp.cb (Kd.C_below HR222_1.out HB.out))
                      (case side4 => exact HC222_1.out)
                      rintro e w107 ⟨rfl, hb⟩
                      refine ⟨_, rfl, ?_⟩
                      have n0_ := Aside0.mk (Cmp.vb hb HO_8.out)
                      have n1_ := Aside0.mk (below_step (Cmp.bq HB.out) hb)
                      clear HO_8
                      clear HB
                      have HO_8 := n0_
                      have HB := n1_
                      clear n0_ n1_
                      (try clear hb)
                      (try clear hb2)
                      (try clear hk)
                      (try clear hi)
                      refine hK.out _ _ ⟨((HB.out.cell (World.block_lt_of_cell? w _ hw215_0)).trans hw215_0), ((HB.out.cell (World.block_lt_of_cell? w _ hw215_1)).trans hw215_1), ((HB.out.cell (World.block_lt_of_cell? w _ hw215_2)).trans hw215_2), ((HB.out.cell (World.block_lt_of_cell? w _ hw216_0)).trans hw216_0), ((HB.out.cell (World.block_lt_of_cell? w _ hw216_1)).trans hw216_1), ((HB.out.cell (World.block_lt_of_cell? w _ hw216_2)).trans hw216_2), ((HB.out.cell (World.block_lt_of_cell? w _ hw218_0)).trans hw218_0), ((HB.out.cell (World.block_lt_of_cell? w _ hw218_1)).trans hw218_1), ((HB.out.cell (World.block_lt_of_cell? w _ hw218_2)).trans hw218_2), ((HB.out.cell (World.block_lt_of_cell? w _ hw219_0)).trans hw219_0), ((HB.out.cell (World.block_lt_of_cell? w _ hw219_1)).trans hw219_1), ((HB.out.cell (World.block_lt_of_cell? w _ hw219_2)).trans hw219_2), ((HB.out.cell (World.block_lt_of_cell? w _ hw221_0)).trans hw221_0), ((HB.out.cell (World.block_lt_of_cell? w _ hw221_1)).trans hw221_1), ((HB.out.cell (World.block_lt_of_cell? w _ hw221_2)).trans hw221_2), ((HB.out.cell (World.block_lt_of_cell? w _ hw222_0)).trans hw222_0), ((HB.out.cell (World.block_lt_of_cell? w _ hw222_1)).trans hw222_1), ((HB.out.cell (World.block_lt_of_cell? w _ hw222_2)).trans hw222_2)⟩ (fun hHeld => ?_)
                      clear hK K
                      refine norm_ (a' := ?_) ?_ ?_
                      rotate_left
                      · show Act.put _ (some 105) _ = _
                        simp only [Act.put, List.setIfInBounds_toArray, List.set_cons_zero, List.set_cons_succ, i64_w, i32_w]
                        rfl
                      refine pure_ (i := 36) (N := some 106) (v := ?_) (a' := ?_) #[true, true, true, true, true, true, true, true, true, true, true, true, true, true, true, true, true, true, true, true, true, true, true, true, true, true, true, true, true, true, true, true, true, true, true, true, true, false] rfl rfl (any_of HT_.out (by kernel_rfl)) (fun _ _ _ h => h) (Or.inl ⟨by rfl, ?_⟩) ?_ ?_
                      rotate_left
                      · intro w'
                        go_simp
                        with_reducible rfl
                      rotate_left
                      · simp only [Act.put, List.setIfInBounds_toArray, List.set_cons_zero, List.set_cons_succ, i64_w, i32_w]
                        rfl
                      refine pure_ (i := 37) (N := some 107) (v := ?_) (a' := ?_) #[true, true, true, true, true, true, true, true, true, true, true, true, true, true, true, true, true, true, true, true, true, true, true, true, true, true, true, true, true, true, true, true, true, true, true, true, true, true] rfl rfl (any_of HT_.out (by kernel_rfl)) (fun _ _ _ h => h) (Or.inl ⟨by rfl, ?_⟩) ?_ ?_
                      rotate_left
                      · intro w'
                        go_simp
                        with_reducible rfl
                      rotate_left
                      · simp only [Act.put, List.setIfInBounds_toArray, List.set_cons_zero, List.set_cons_succ, i64_w, i32_w]
                        rfl
                      refine done_ (done_of HT_.out (by kernel_rfl)) ?_
                      try go_wp2
                      go_ret
                      exact ⟨by first | rfl | (simp [errW_none, errW_some] <;> rfl) | (simp [*, errW_none, errW_some] <;> rfl), by repeat (first | (with_reducible first | exact HB.out | apply below_alloc | apply pw_below_drewN | apply below_drew1) | exact HB.out)⟩
                  · rw [if_neg c93] at H
                    exact absurd H (by simp)
                · rw [if_neg c92] at H
                  have c92b0 : decide (x10_3 < (l0.length : Int)) = false := decide_eq_false c92
                  clear c92
                  by_cases c108 : t183 = true
                  · subst c108
                    have H1 : (if x9_19 = true then ((delta_Count.f k3 t187).bind fun t224 => ((delta_Count.f k3 l0).bind fun t225 => ((delta_Count.f k3 l1).bind fun t226 => (if t224 = (wrap64 (t225 + t226)) then ((delta_Consolidate.f l0).bind fun t227 => ((delta_Same.f t227 l0).bind fun t230 => (if t230 = true then ((delta_Consolidate.f t187).bind fun t231 => ((errataref28_Equal.f k3 t231 t187).bind fun t234 => (some t234))) else (some false)))) else (some false))))) else (some false)) = some r := by rw [if_pos rfl] at H; exact H
                    clear H
                    have H := H1
                    clear H1
                    by_cases c109 : x9_19 = true
                    · subst c109
                      have H1 : ((delta_Count.f k3 t187).bind fun t224 => ((delta_Count.f k3 l0).bind fun t225 => ((delta_Count.f k3 l1).bind fun t226 => (if t224 = (wrap64 (t225 + t226)) then ((delta_Consolidate.f l0).bind fun t227 => ((delta_Same.f t227 l0).bind fun t230 => (if t230 = true then ((delta_Consolidate.f t187).bind fun t231 => ((errataref28_Equal.f k3 t231 t187).bind fun t234 => (some t234))) else (some false)))) else (some false))))) = some r := by rw [if_pos rfl] at H; exact H
                      clear H
                      have H := H1
                      clear H1
                      replace H := Option.bind_eq_some_iff.mp H
                      obtain ⟨t224, A1100, H⟩ := H
                      replace H : ((delta_Count.f k3 l0).bind fun t225 => ((delta_Count.f k3 l1).bind fun t226 => (if t224 = (wrap64 (t225 + t226)) then ((delta_Consolidate.f l0).bind fun t227 => ((delta_Same.f t227 l0).bind fun t230 => (if t230 = true then ((delta_Consolidate.f t187).bind fun t231 => ((errataref28_Equal.f k3 t231 t187).bind fun t234 => (some t234))) else (some false)))) else (some false)))) = some r := H
                      have A110 := Aside0.mk A1100
                      clear A1100
                      replace H := Option.bind_eq_some_iff.mp H
                      obtain ⟨t225, A1110, H⟩ := H
                      replace H : ((delta_Count.f k3 l1).bind fun t226 => (if t224 = (wrap64 (t225 + t226)) then ((delta_Consolidate.f l0).bind fun t227 => ((delta_Same.f t227 l0).bind fun t230 => (if t230 = true then ((delta_Consolidate.f t187).bind fun t231 => ((errataref28_Equal.f k3 t231 t187).bind fun t234 => (some t234))) else (some false)))) else (some false))) = some r := H
                      have A111 := Aside0.mk A1110
                      clear A1110
                      replace H := Option.bind_eq_some_iff.mp H
                      obtain ⟨t226, A1120, H⟩ := H
                      replace H : (if t224 = (wrap64 (t225 + t226)) then ((delta_Consolidate.f l0).bind fun t227 => ((delta_Same.f t227 l0).bind fun t230 => (if t230 = true then ((delta_Consolidate.f t187).bind fun t231 => ((errataref28_Equal.f k3 t231 t187).bind fun t234 => (some t234))) else (some false)))) else (some false)) = some r := H
                      have A112 := Aside0.mk A1120
                      clear A1120
                      by_cases c113 : t224 = (wrap64 (t225 + t226))
                      · rw [if_pos c113] at H
                        have c113b0 : (t224 == (wrap64 (t225 + t226))) = true := beq_iff_eq.mpr c113
                        have c113b1 : (t224 != (wrap64 (t225 + t226))) = false := bne_eq_false_iff_eq.mpr c113
                        clear c113
                        replace H := Option.bind_eq_some_iff.mp H
                        obtain ⟨t227, A1140, H⟩ := H
                        replace H : ((delta_Same.f t227 l0).bind fun t230 => (if t230 = true then ((delta_Consolidate.f t187).bind fun t231 => ((errataref28_Equal.f k3 t231 t187).bind fun t234 => (some t234))) else (some false))) = some r := H
                        have A114 := Aside0.mk A1140
                        clear A1140
                        replace H := Option.bind_eq_some_iff.mp H
                        obtain ⟨t230, A1150, H⟩ := H
                        replace H : (if t230 = true then ((delta_Consolidate.f t187).bind fun t231 => ((errataref28_Equal.f k3 t231 t187).bind fun t234 => (some t234))) else (some false)) = some r := H
                        have A115 := Aside0.mk A1150
                        clear A1150
                        by_cases c116 : t230 = true
                        · subst c116
                          have H1 : ((delta_Consolidate.f t187).bind fun t231 => ((errataref28_Equal.f k3 t231 t187).bind fun t234 => (some t234))) = some r := by rw [if_pos rfl] at H; exact H
                          clear H
                          have H := H1
                          clear H1
                          replace H := Option.bind_eq_some_iff.mp H
                          obtain ⟨t231, A1170, H⟩ := H
                          replace H : ((errataref28_Equal.f k3 t231 t187).bind fun t234 => (some t234)) = some r := H
                          have A117 := Aside0.mk A1170
                          clear A1170
                          replace H := Option.bind_eq_some_iff.mp H
                          obtain ⟨t234, A1180, H⟩ := H
                          replace H : (some t234) = some r := H
                          have A118 := Aside0.mk A1180
                          clear A1180
                          obtain rfl := Option.some.inj H
                          obtain ⟨Ao119, co119, eo119⟩ := Kd.V_slice HO_8.out
                          subst eo119
                          go_wp2_with (first | (go_at_call 22; (with_reducible refine (delta_Count.calls k3 _ _ t187 t224 _ ?side1 ?side2 A110.out).mono ?_); (case side1 => repeat (first | exact (Kd.V_reads' HO_8.out).2.2 | (with_reducible refine Kd.C_alloc ?_ _) | (with_reducible refine Kd.C_drewN ?_ _) | (with_reducible refine Kd.C_drew ?_))); (case side2 => exact (Kd.V_reads' HO_8.out).2.1); rintro e w120 ⟨rfl, hb⟩; have n0_ := Aside0.mk (Cmp.vb hb HO_8.out); have n1_ := Aside0.mk (below_step (Cmp.bq HB.out) hb); clear HO_8; clear HB; have HO_8 := n0_; have HB := n1_; clear n0_ n1_; (try clear hb); (try clear hb2); (try clear hk); (try clear hi)) | (go_at_call 22; (with_reducible refine (delta_Count.calls k3 _ _ l0 t225 _ ?side1 ?side2 A111.out).mono ?_); (case side1 => exact Cmp.cb (Kd.C_below HR0.out HB.out)); (case side2 => exact HC0.out); rintro e w121 ⟨rfl, hb⟩; have n0_ := Aside0.mk (Cmp.vb hb HO_8.out); have n1_ := Aside0.mk (below_step (Cmp.bq HB.out) hb); clear HO_8; clear HB; have HO_8 := n0_; have HB := n1_; clear n0_ n1_; (try clear hb); (try clear hb2); (try clear hk); (try clear hi)) | (go_at_call 22; (with_reducible refine (delta_Count.calls k3 _ _ l1 t226 _ ?side1 ?side2 A112.out).mono ?_); (case side1 => exact Cmp.cb (Kd.C_below HR1.out HB.out)); (case side2 => exact HC1.out); rintro e w122 ⟨rfl, hb⟩; have n0_ := Aside0.mk (Cmp.vb hb HO_8.out); have n1_ := Aside0.mk (below_step (Cmp.bq HB.out) hb); clear HO_8; clear HB; have HO_8 := n0_; have HB := n1_; clear n0_ n1_; (try clear hb); (try clear hb2); (try clear hk); (try clear hi)) | (go_at_call 17; (with_reducible refine (delta_Consolidate.calls _ _ l0 t227 _ ?side1 ?side2 A114.out).mono ?_); (case side1 => exact Cmp.cb (Kd.C_below HR0.out HB.out)); (case side2 => exact HC0.out); rintro e w123 ⟨v228, rfl, ho0, hb⟩; have n0_ := Aside0.mk (Cmp.vb hb HO_8.out); have n1_ := Aside0.mk (Kd.V_lower (Kd.V_mono (ok' := fun k_ => True) ho0 (fun k_ hk_ => trivial)) (below_size (Cmp.bq HB.out))); have n2_ := Aside0.mk (below_step (Cmp.bq HB.out) hb); clear HO_8; clear HB; have HO_8 := n0_; have HO229 := n1_; have HB := n2_; clear n0_ n1_ n2_; (try clear hb); (try clear hb2); (try clear hk); (try clear hi); (try clear ho0); obtain ⟨Ao124, co124, eo124⟩ := Kd.V_slice HO229.out; subst eo124) | (go_at_call 23; (with_reducible refine (delta_Same.calls _ _ t227 _ _ l0 true _ ?side1 ?side2 ?side3 ?side4 A115.out).mono ?_); (case side1 => repeat (first | exact (Kd.V_reads' HO229.out).2.2 | (with_reducible refine Kd.C_alloc ?_ _) | (with_reducible refine Kd.C_drewN ?_ _) | (with_reducible refine Kd.C_drew ?_))); (case side2 => exact (Kd.V_reads' HO229.out).2.1); (case side3 => exact Cmp.cb (Kd.C_below HR0.out HB.out)); (case side4 => exact HC0.out); rintro e w125 ⟨rfl, hb⟩; have n0_ := Aside0.mk (Cmp.vb hb HO_8.out); have n1_ := Aside0.mk (Cmp.vb hb HO229.out); have n2_ := Aside0.mk (below_step (Cmp.bq HB.out) hb); clear HO_8; clear HO229; clear HB; have HO_8 := n0_; have HO229 := n1_; have HB := n2_; clear n0_ n1_ n2_; (try clear hb); (try clear hb2); (try clear hk); (try clear hi)) | (go_at_call 17; (with_reducible refine (delta_Consolidate.calls _ _ t187 t231 _ ?side1 ?side2 A117.out).mono ?_); (case side1 => repeat (first | exact (Kd.V_reads' HO_8.out).2.2 | (with_reducible refine Kd.C_alloc ?_ _) | (with_reducible refine Kd.C_drewN ?_ _) | (with_reducible refine Kd.C_drew ?_))); (case side2 => exact (Kd.V_reads' HO_8.out).2.1); rintro e w126 ⟨v232, rfl, ho0, hb⟩; have n0_ := Aside0.mk (Cmp.vb hb HO_8.out); have n1_ := Aside0.mk (Cmp.vb hb HO229.out); have n2_ := Aside0.mk (Kd.V_lower (Kd.V_mono (ok' := fun k_ => True) ho0 (fun k_ hk_ => trivial)) (below_size (Cmp.bq HB.out))); have n3_ := Aside0.mk (below_step (Cmp.bq HB.out) hb); clear HO_8; clear HO229; clear HB; have HO_8 := n0_; have HO229 := n1_; have HO233 := n2_; have HB := n3_; clear n0_ n1_ n2_ n3_; (try clear hb); (try clear hb2); (try clear hk); (try clear hi); (try clear ho0); obtain ⟨Ao127, co127, eo127⟩ := Kd.V_slice HO233.out; subst eo127) | (go_at_call 15; (with_reducible refine (errataref28_Equal.calls k3 _ _ t231 _ _ t187 t234 _ ?side1 ?side2 ?side3 ?side4 A118.out).mono ?_); (case side1 => repeat (first | exact (Kd.V_reads' HO233.out).2.2 | (with_reducible refine Kd.C_alloc ?_ _) | (with_reducible refine Kd.C_drewN ?_ _) | (with_reducible refine Kd.C_drew ?_))); (case side2 => exact (Kd.V_reads' HO233.out).2.1); (case side3 => repeat (first | exact (Kd.V_reads' HO_8.out).2.2 | (with_reducible refine Kd.C_alloc ?_ _) | (with_reducible refine Kd.C_drewN ?_ _) | (with_reducible refine Kd.C_drew ?_))); (case side4 => exact (Kd.V_reads' HO_8.out).2.1); rintro e w128 ⟨rfl, hb⟩; have n0_ := Aside0.mk (Cmp.vb hb HO_8.out); have n1_ := Aside0.mk (Cmp.vb hb HO229.out); have n2_ := Aside0.mk (Cmp.vb hb HO233.out); have n3_ := Aside0.mk (below_step (Cmp.bq HB.out) hb); clear HO_8; clear HO229; clear HO233; clear HB; have HO_8 := n0_; have HO229 := n1_; have HO233 := n2_; have HB := n3_; clear n0_ n1_ n2_ n3_; (try clear hb); (try clear hb2); (try clear hk); (try clear hi)))
                          go_ret
                          exact ⟨by first | rfl | (simp [errW_none, errW_some] <;> rfl) | (simp [*, errW_none, errW_some] <;> rfl), by repeat (first | (with_reducible first | exact HB.out | apply below_alloc | apply pw_below_drewN | apply below_drew1) | exact HB.out)⟩
                        · replace c116 := Bool.eq_false_iff.mpr c116
                          subst c116
                          have H1 : (some false) = some r := by rw [if_neg (show ¬ (false = true) by decide)] at H; exact H
                          clear H
                          have H := H1
                          clear H1
                          obtain rfl := Option.some.inj H
                          obtain ⟨Ao129, co129, eo129⟩ := Kd.V_slice HO_8.out
                          subst eo129
                          go_wp2_with (first | (go_at_call 22; (with_reducible refine (delta_Count.calls k3 _ _ t187 t224 _ ?side1 ?side2 A110.out).mono ?_); (case side1 => repeat (first | exact (Kd.V_reads' HO_8.out).2.2 | (with_reducible refine Kd.C_alloc ?_ _) | (with_reducible refine Kd.C_drewN ?_ _) | (with_reducible refine Kd.C_drew ?_))); (case side2 => exact (Kd.V_reads' HO_8.out).2.1); rintro e w130 ⟨rfl, hb⟩; have n0_ := Aside0.mk (Cmp.vb hb HO_8.out); have n1_ := Aside0.mk (below_step (Cmp.bq HB.out) hb); clear HO_8; clear HB; have HO_8 := n0_; have HB := n1_; clear n0_ n1_; (try clear hb); (try clear hb2); (try clear hk); (try clear hi)) | (go_at_call 22; (with_reducible refine (delta_Count.calls k3 _ _ l0 t225 _ ?side1 ?side2 A111.out).mono ?_); (case side1 => exact Cmp.cb (Kd.C_below HR0.out HB.out)); (case side2 => exact HC0.out); rintro e w131 ⟨rfl, hb⟩; have n0_ := Aside0.mk (Cmp.vb hb HO_8.out); have n1_ := Aside0.mk (below_step (Cmp.bq HB.out) hb); clear HO_8; clear HB; have HO_8 := n0_; have HB := n1_; clear n0_ n1_; (try clear hb); (try clear hb2); (try clear hk); (try clear hi)) | (go_at_call 22; (with_reducible refine (delta_Count.calls k3 _ _ l1 t226 _ ?side1 ?side2 A112.out).mono ?_); (case side1 => exact Cmp.cb (Kd.C_below HR1.out HB.out)); (case side2 => exact HC1.out); rintro e w132 ⟨rfl, hb⟩; have n0_ := Aside0.mk (Cmp.vb hb HO_8.out); have n1_ := Aside0.mk (below_step (Cmp.bq HB.out) hb); clear HO_8; clear HB; have HO_8 := n0_; have HB := n1_; clear n0_ n1_; (try clear hb); (try clear hb2); (try clear hk); (try clear hi)) | (go_at_call 17; (with_reducible refine (delta_Consolidate.calls _ _ l0 t227 _ ?side1 ?side2 A114.out).mono ?_); (case side1 => exact Cmp.cb (Kd.C_below HR0.out HB.out)); (case side2 => exact HC0.out); rintro e w133 ⟨v228, rfl, ho0, hb⟩; have n0_ := Aside0.mk (Cmp.vb hb HO_8.out); have n1_ := Aside0.mk (Kd.V_lower (Kd.V_mono (ok' := fun k_ => True) ho0 (fun k_ hk_ => trivial)) (below_size (Cmp.bq HB.out))); have n2_ := Aside0.mk (below_step (Cmp.bq HB.out) hb); clear HO_8; clear HB; have HO_8 := n0_; have HO229 := n1_; have HB := n2_; clear n0_ n1_ n2_; (try clear hb); (try clear hb2); (try clear hk); (try clear hi); (try clear ho0); obtain ⟨Ao134, co134, eo134⟩ := Kd.V_slice HO229.out; subst eo134) | (go_at_call 23; (with_reducible refine (delta_Same.calls _ _ t227 _ _ l0 false _ ?side1 ?side2 ?side3 ?side4 A115.out).mono ?_); (case side1 => repeat (first | exact (Kd.V_reads' HO229.out).2.2 | (with_reducible refine Kd.C_alloc ?_ _) | (with_reducible refine Kd.C_drewN ?_ _) | (with_reducible refine Kd.C_drew ?_))); (case side2 => exact (Kd.V_reads' HO229.out).2.1); (case side3 => exact Cmp.cb (Kd.C_below HR0.out HB.out)); (case side4 => exact HC0.out); rintro e w135 ⟨rfl, hb⟩; have n0_ := Aside0.mk (Cmp.vb hb HO_8.out); have n1_ := Aside0.mk (Cmp.vb hb HO229.out); have n2_ := Aside0.mk (below_step (Cmp.bq HB.out) hb); clear HO_8; clear HO229; clear HB; have HO_8 := n0_; have HO229 := n1_; have HB := n2_; clear n0_ n1_ n2_; (try clear hb); (try clear hb2); (try clear hk); (try clear hi)))
                          go_ret
                          exact ⟨by first | rfl | (simp [errW_none, errW_some] <;> rfl) | (simp [*, errW_none, errW_some] <;> rfl), by repeat (first | (with_reducible first | exact HB.out | apply below_alloc | apply pw_below_drewN | apply below_drew1) | exact HB.out)⟩
                      · rw [if_neg c113] at H
                        have c113b0 : (t224 == (wrap64 (t225 + t226))) = false := beq_eq_false_iff_ne.mpr c113
                        have c113b1 : (t224 != (wrap64 (t225 + t226))) = true := bne_iff_ne.mpr c113
                        obtain rfl := Option.some.inj H
                        obtain ⟨Ao136, co136, eo136⟩ := Kd.V_slice HO_8.out
                        subst eo136
                        go_wp2_with (first | (go_at_call 22; (with_reducible refine (delta_Count.calls k3 _ _ t187 t224 _ ?side1 ?side2 A110.out).mono ?_); (case side1 => repeat (first | exact (Kd.V_reads' HO_8.out).2.2 | (with_reducible refine Kd.C_alloc ?_ _) | (with_reducible refine Kd.C_drewN ?_ _) | (with_reducible refine Kd.C_drew ?_))); (case side2 => exact (Kd.V_reads' HO_8.out).2.1); rintro e w137 ⟨rfl, hb⟩; have n0_ := Aside0.mk (Cmp.vb hb HO_8.out); have n1_ := Aside0.mk (below_step (Cmp.bq HB.out) hb); clear HO_8; clear HB; have HO_8 := n0_; have HB := n1_; clear n0_ n1_; (try clear hb); (try clear hb2); (try clear hk); (try clear hi)) | (go_at_call 22; (with_reducible refine (delta_Count.calls k3 _ _ l0 t225 _ ?side1 ?side2 A111.out).mono ?_); (case side1 => exact Cmp.cb (Kd.C_below HR0.out HB.out)); (case side2 => exact HC0.out); rintro e w138 ⟨rfl, hb⟩; have n0_ := Aside0.mk (Cmp.vb hb HO_8.out); have n1_ := Aside0.mk (below_step (Cmp.bq HB.out) hb); clear HO_8; clear HB; have HO_8 := n0_; have HB := n1_; clear n0_ n1_; (try clear hb); (try clear hb2); (try clear hk); (try clear hi)) | (go_at_call 22; (with_reducible refine (delta_Count.calls k3 _ _ l1 t226 _ ?side1 ?side2 A112.out).mono ?_); (case side1 => exact Cmp.cb (Kd.C_below HR1.out HB.out)); (case side2 => exact HC1.out); rintro e w139 ⟨rfl, hb⟩; have n0_ := Aside0.mk (Cmp.vb hb HO_8.out); have n1_ := Aside0.mk (below_step (Cmp.bq HB.out) hb); clear HO_8; clear HB; have HO_8 := n0_; have HB := n1_; clear n0_ n1_; (try clear hb); (try clear hb2); (try clear hk); (try clear hi)))
                        go_ret
                        exact ⟨by first | rfl | (simp [errW_none, errW_some] <;> rfl) | (simp [*, errW_none, errW_some] <;> rfl), by repeat (first | (with_reducible first | exact HB.out | apply below_alloc | apply pw_below_drewN | apply below_drew1) | exact HB.out)⟩
                    · replace c109 := Bool.eq_false_iff.mpr c109
                      subst c109
                      have H1 : (some false) = some r := by rw [if_neg (show ¬ (false = true) by decide)] at H; exact H
                      clear H
                      have H := H1
                      clear H1
                      obtain rfl := Option.some.inj H
                      go_wp2
                      go_ret
                      exact ⟨by first | rfl | (simp [errW_none, errW_some] <;> rfl) | (simp [*, errW_none, errW_some] <;> rfl), by repeat (first | (with_reducible first | exact HB.out | apply below_alloc | apply pw_below_drewN | apply below_drew1) | exact HB.out)⟩
                  · replace c108 := Bool.eq_false_iff.mpr c108
                    subst c108
                    have H1 : (some false) = some r := by rw [if_neg (show ¬ (false = true) by decide)] at H; exact H
                    clear H
                    have H := H1
                    clear H1
                    obtain rfl := Option.some.inj H
                    go_wp2
                    go_ret
                    exact ⟨by first | rfl | (simp [errW_none, errW_some] <;> rfl) | (simp [*, errW_none, errW_some] <;> rfl), by repeat (first | (with_reducible first | exact HB.out | apply below_alloc | apply pw_below_drewN | apply below_drew1) | exact HB.out)⟩

end Go.Proofs.YtgbodlghggkmoaaDoor.G
