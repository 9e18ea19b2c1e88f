/- slices.SortStableFunc at deltas. -/
import Derived.Test.YtgbodlghggkmoaaDoorSrtD
namespace Go.Proofs.YtgbodlghggkmoaaDoor.Srt
set_option linter.unusedVariables false
set_option linter.unusedSimpArgs false
open Go Go.Shelf Go.RowKit Go.Lib Go.Sort Go.Proofs Go.Proofs.YtgbodlghggkmoaaDoor.SrtP
theorem lays : SL Tryd.prog 3 where
  mixed := by kernel_rfl
  fS := Tryd.func143
  fR := Tryd.func140
  fM := Tryd.func131
  fT := Tryd.func109
  fF := Tryd.func73
  fI := Tryd.func130
  aE := Tryd.isAgg28
  zE := Tryd.sizeOf28
  t0 := Tryd.underlying0
  a0 := Tryd.isAgg0
  z0 := Tryd.sizeOf0
  v0 := Tryd.zeroValue0
  t3 := Tryd.underlying3
  a3 := Tryd.isAgg3
  z3 := Tryd.sizeOf3
  v3 := Tryd.zeroValue3
  t4 := Tryd.underlying4
  a4 := Tryd.isAgg4
  z4 := Tryd.sizeOf4
  v4 := Tryd.zeroValue4
  t22 := Tryd.underlying22
  a22 := Tryd.isAgg22
  z22 := Tryd.sizeOf22
  v22 := Tryd.zeroValue22
  t25 := Tryd.underlying82
  a25 := Tryd.isAgg82
  z25 := Tryd.sizeOf82
  v25 := Tryd.zeroValue82
  t43 := Tryd.underlying143
  a43 := Tryd.isAgg143
  z43 := Tryd.sizeOf143
  v43 := Tryd.zeroValue143
variable {α : Type} [Inhabited α] {enc : α → List Value} {g : Nat} {cb : Array Value} {blk : Nat} {cf : α → α → Int}
theorem swk_start {k off : Nat} {dk : Array α} {W : World} (h : HoldsK enc k W blk off dk) : SWK enc k (redrawn W 0) blk off dk W := by
  have h0 : HoldsK enc k (redrawn W 0) blk off dk := h
  have := swk_re (w0 := redrawn W 0) rfl (SWK.start h0) W.drawn #[]
  rw [grow_empty] at this
  exact this
set_option maxHeartbeats 4000000 in
set_option maxRecDepth 1000000 in
theorem sortStable (cap : Nat) (d : Array α) (W : World) (eg : ∀ args w, (callFunc g args).run Tryd.prog w = .ok (.enter g args) w) (hcmp : CmpB Tryd.prog g cb enc 3 cf blk 0 d.size (redrawn W 0)) (hO : SWO (ltOf cf))
    (hk : ∀ x, (enc x).length = 3) (h1 : ∀ x, ∀ v ∈ enc x, v.oneCell' = true) (hH : HoldsK enc 3 W blk 0 d) (hblk : blk < W.heap.size) (hsz : d.size ≤ 1099511627776) :
    Calls Tryd.prog 73 #[.slice (some ⟨blk, 0, none⟩) d.size cap, .func (.func g) #[] cb] W fun e w' => e = .returned (.tuple #[]) ∧ ∃ d', Srt (ltOf cf) 0 d.size d d' ∧ SWK enc 3 (redrawn W 0) blk 0 d' w' := by
  have R : RowK enc 3 (redrawn W 0) blk 0 d := ⟨hk, h1, hH, hblk⟩
  have HC : Aside (Calls Tryd.prog 109 #[.slice (some ⟨blk, 0, none⟩) d.size cap, .int .i64 d.size, .func (.func g) #[] cb] W fun e w' => e = .returned (.tuple #[]) ∧ ∃ d', Srt (ltOf cf) 0 d.size d d' ∧ SWK enc 3 (redrawn W 0) blk 0 d' w') := stable lays cap d W eg hcmp rfl hO R rfl (swk_start hH) hsz
  have HX : Aside (d.size ≤ 1099511627776) := hsz
  clear hcmp hH R eg hO hk h1 hblk
  go_enter Tryd.func73, Tryd.ntmps73
  go_wp2_with fail
  refine HC.out.mono ?_
  rintro e w1 ⟨rfl, d', s, S⟩
  have S : Aside _ := S
  go_wp2
  go_end0
  exact ⟨rfl, d', s, S.out⟩
end Go.Proofs.YtgbodlghggkmoaaDoor.Srt
