/- The sort's worlds, seen from without. -/
import Derived.Test.YtgbodlghggkmoaaDoorSrtE
namespace Go.Proofs.YtgbodlghggkmoaaDoor.Srt
set_option linter.unusedVariables false
set_option linter.unusedSimpArgs false
open Go Go.Shelf Go.RowKit Go.Lib Go.Sort Go.Proofs Go.Proofs.YtgbodlghggkmoaaDoor.SrtP
variable {α : Type} [Inhabited α] {enc : α → List Value} {k : Nat}
theorem holds_own {w : World} {base g n cap : Nat} {e : TypeId} {cur : Array Value} {d : Array α} (hb : w.heap[g]? = some (.cells cur e (0, 0))) (hc : cur.toList.take (d.size * k) = (flatK enc k d).toList) : HoldsK enc k w g 0 d ∧ g < w.heap.size := by
  refine ⟨fun j hj => ?_, (Array.getElem?_eq_some_iff.1 hb).1⟩
  have hj' : j < d.size * k := by rw [size_flatK] at hj; exact hj
  constructor
  · have h1 : cur.toList[j]? = (flatK enc k d).toList[j]? := by rw [← hc, List.getElem?_take, if_pos hj']
    rw [Array.getElem?_toList, Array.getElem?_toList, Array.getElem?_eq_getElem hj] at h1
    show w.cell? ⟨g, 0 + j, none⟩ = some _
    unfold World.cell?
    simp only [hb, Option.isSome_none, Bool.false_eq_true, if_false, Nat.zero_add, h1, id]
    rw [getElem!_pos _ j hj]
  · unfold World.frozen?
    simp [hb]
theorem below_swk {w0 W : World} {blk off B : Nat} {dk : Array α} (h : SWK enc k w0 blk off dk W) (hB : B ≤ blk) (hw : B ≤ w0.heap.size) : Below B w0 W := by
  obtain ⟨n, os, rfl⟩ := h
  unfold sortWorldK putRowK putRow
  refine ⟨rfl, rfl, rfl, ?_, fun j hj => ?_⟩
  · simp [grow, mapBlock, Sort.ahead, World.drewN]
  · simp only [grow, mapBlock, Sort.ahead, World.drewN]
    rw [Array.getElem?_append_left (by simp; omega), Array.getElem?_modify, if_neg (by omega)]
set_option maxHeartbeats 4000000 in
set_option maxRecDepth 1000000 in
theorem insertion_nil (c : Nat) (g : Nat) (W : World) : Calls Tryd.prog 130 #[.slice none 0 c, .int .i64 0, .int .i64 0, .func (.func g) #[] #[]] W fun e w' => e = .returned (.tuple #[]) ∧ w' = W := by
  go_enter Tryd.func130, Tryd.ntmps130
  go_wp2
  go_loopg [8] 0 (fun _ v w' => v = .int .i64 1 ∧ w' = W)
  case atStart => exact ⟨rfl, rfl⟩
  case round =>
    obtain ⟨rfl, rfl⟩ := hrel
    go_wp2
    go_end0
    exact ⟨rfl, rfl⟩
set_option maxHeartbeats 4000000 in
set_option maxRecDepth 1000000 in
theorem stable_nil (c : Nat) (g : Nat) (W : World) : Calls Tryd.prog 109 #[.slice none 0 c, .int .i64 0, .func (.func g) #[] #[]] W fun e w' => e = .returned (.tuple #[]) ∧ w' = W := by
  have HI := insertion_nil c g W
  go_enter Tryd.func109, Tryd.ntmps109
  go_wp2
  go_loopg [7, 8] 0 (fun _ v u w' => v = .int .i64 0 ∧ u = .int .i64 20 ∧ w' = W)
  case atStart => exact ⟨rfl, rfl, rfl⟩
  case round =>
    obtain ⟨rfl, rfl, hw0⟩ := hrel
    subst wr
    go_wp2_with fail
    refine HI.mono ?_
    rintro e_ w1 ⟨rfl, hw⟩
    subst w1
    go_wp2
    go_loopg [6] 0 (fun _ v w' => v = .int .i64 20 ∧ w' = W)
    case atStart => exact ⟨rfl, rfl⟩
    case round =>
      obtain ⟨rfl, rfl⟩ := hrel
      go_wp2
      go_end0
      exact ⟨rfl, rfl⟩
set_option maxHeartbeats 4000000 in
set_option maxRecDepth 1000000 in
theorem sortStable_nil (c : Nat) (g : Nat) (W : World) : Calls Tryd.prog 73 #[.slice none 0 c, .func (.func g) #[] #[]] W fun e w' => e = .returned (.tuple #[]) ∧ w' = W := by
  have HI := stable_nil c g W
  go_enter Tryd.func73, Tryd.ntmps73
  go_wp2_with fail
  refine HI.mono ?_
  rintro e_ w' ⟨rfl, rfl⟩
  go_wp2
  go_end0
  exact ⟨rfl, rfl⟩
end Go.Proofs.YtgbodlghggkmoaaDoor.Srt
