/- The library's insertion sort at elements of k cells. -/
import Derived.Test.YtgbodlghggkmoaaDoorSrtA
import Derived.Lib.QuietBelow
namespace Go.Proofs.YtgbodlghggkmoaaDoor.Srt
set_option linter.unusedVariables false
set_option linter.unusedSimpArgs false
open Go Go.Shelf Go.RowKit Go.Lib Go.Sort Go.Proofs Go.Proofs.YtgbodlghggkmoaaDoor.SrtP
variable {P : Program} {k : Nat} {α : Type} [Inhabited α] {enc : α → List Value} {g : Nat} {cb : Array Value} {blk off : Nat} {d0 : Array α} {w0 : World} {cf : α → α → Int}

/-- cmp hands back cf x y, whatever the world of the sort's; it turns nothing that is there. -/
def CmpB (P : Program) (g : Nat) (cb : Array Value) (enc : α → List Value) (k : Nat) (cf : α → α → Int) (blk off size : Nat) (w0 : World) : Prop :=
  ∀ (W : World) (dk : Array α), dk.size = size → SWK enc k w0 blk off dk W → ∀ x y : α, Calls P g (#[.agg (enc x).toArray, .agg (enc y).toArray] ++ cb) W fun e w' => e = .returned (.int .i64 (cf x y)) ∧ Below W.heap.size W w'
/-- From a world of the sort's to another, however often the tape was asked. -/
theorem swk_re {dk : Array α} {W : World} (hz : w0.drawn = 0) (h : SWK enc k w0 blk off dk W) (d : Nat) (os : Array Obj) : SWK enc k w0 blk off dk (grow (redrawn W d) os) := by
  obtain ⟨n, os0, rfl⟩ := h
  refine ⟨d, os0 ++ os, ?_⟩
  unfold sortWorldK
  rw [← grow_grow]
  congr 1
  simp only [redrawn, grow, Sort.ahead, putRowK, putRow]
  simp [hz]
  exact ⟨rfl, rfl, rfl, rfl, rfl⟩
theorem swk_drew {dk : Array α} {W : World} (hz : w0.drawn = 0) (h : SWK enc k w0 blk off dk W) : SWK enc k w0 blk off dk W.drew := by
  have := swk_re hz h (W.drawn + 1) #[]
  rw [grow_empty] at this
  exact this

set_option maxHeartbeats 8000000 in
set_option maxRecDepth 1000000 in
theorem insertion (L : SL P k) (cap a b : Nat) (d : Array α) (w : World) (eg : ∀ args w, (callFunc g args).run P w = .ok (.enter g args) w) (hcmp : CmpB P g cb enc k cf blk off d0.size w0) (hz : w0.drawn = 0)
    (R : RowK enc k w0 blk off d0) (hs : d0.size = d.size) (S : SWK enc k w0 blk off d w) (hab : a ≤ b) (hb : b ≤ d.size) (hsz : d.size < 4611686018427387904) :
    Calls P 130 #[.slice (some ⟨blk, off, none⟩) d.size cap, .int .i64 a, .int .i64 b, .func (.func g) #[] cb] w fun e w' => e = .returned (.tuple #[]) ∧ SWK enc k w0 blk off (Sort.insertionSort (ltOf cf) d a b) w' := by
  have mixed := L.mixed; have aE := L.aE; have zE := L.zE; have t0 := L.t0; have a0 := L.a0; have z0 := L.z0; have v0 := L.v0; have t3 := L.t3; have a3 := L.a3; have z3 := L.z3; have v3 := L.v3; have t4 := L.t4; have a4 := L.a4; have z4 := L.z4; have v4 := L.v4; have t22 := L.t22; have a22 := L.a22; have z22 := L.z22; have v22 := L.v22; have t25 := L.t25; have a25 := L.a25; have z25 := L.z25; have v25 := L.v25; have t43 := L.t43; have a43 := L.a43; have z43 := L.z43; have v43 := L.v43
  have FG := L.fI
  have S0 : Aside (SWK enc k w0 blk off d w) := S
  have HC : Aside (CmpB P g cb enc k cf blk off d0.size w0) := hcmp
  have HZ : Aside (w0.drawn = 0) := hz
  clear S hcmp hz
  go_enter FG, Tryd.ntmps130
  go_wp2
  go_loopg [8] (b - a) (fun g1 vi wr => ∃ (i : Nat) (dk : Array α), vi = .int .i64 i ∧ a < i ∧ i ≤ b + 1 ∧ b + 1 - i ≤ g1 + 1 ∧ dk.size = d.size ∧ Aside (SWK enc k w0 blk off dk wr) ∧ Aside (insOuter (ltOf cf) a b i dk = insOuter (ltOf cf) a b (a + 1) d))
  case atStart => exact ⟨a + 1, d, by go_num, by omega, by omega, by omega, rfl, S0, rfl⟩
  case round =>
    clear S0
    obtain ⟨i, dk, rfl, hai, hib, hg1, hsk, S1, HO⟩ := hrel
    by_cases hlt : i < b
    · have hltz : (i : Int) < (b : Int) := by omega
      go_wp2
      go_loopg [9] i (fun g2 vj wr => ∃ (j : Nat) (dj : Array α), vj = .int .i64 j ∧ a ≤ j ∧ j ≤ i ∧ j ≤ g2 ∧ dj.size = d.size ∧ Aside (SWK enc k w0 blk off dj wr) ∧ Aside (insInner (ltOf cf) a j dj = insInner (ltOf cf) a i dk))
      case atStart => exact ⟨i, dk, rfl, by omega, Nat.le_refl _, Nat.le_refl _, hsk, S1, rfl⟩
      case round =>
        clear S1
        obtain ⟨j, dj, rfl, haj, hji, hg2, hsj, S1, HI⟩ := hrel
        have out : (j ≤ a ∨ ltOf cf dj[j]! dj[j - 1]! = false) → Aside (insOuter (ltOf cf) a b (i + 1) dj = insOuter (ltOf cf) a b (a + 1) d) := fun hs => by
          show _ = _
          rw [← HO.out, insOuter_go _ _ _ _ _ hlt, ← HI.out, insInner_stop _ _ _ _ hs]
        have OUT : Aside _ := out
        clear out
        by_cases hja : a < j
        · obtain ⟨jp, rfl⟩ : ∃ jp, j = jp + 1 := ⟨j - 1, by omega⟩
          have hjaz : (a : Int) < (jp : Int) + 1 := by omega
          have hjad : decide ((a : Int) < (jp : Int) + 1) = true := decide_eq_true hjaz
          have ea1 : ((jp : Int) + 1).toNat = jp + 1 := by omega
          have pa1 : (0 : Int) ≤ (jp : Int) + 1 := by omega
          have ba1 : (jp : Int) + 1 < (d.size : Int) := by omega
          have ra1 : IntKind.i64.wrap ((jp : Int) + 1) = (jp : Int) + 1 := by rw [IntKind.wrap_i64]; omega
          have ec1 : ((jp : Int)).toNat = jp := by omega
          have pc1 : (0 : Int) ≤ (jp : Int) := by omega
          have bc1 : (jp : Int) < (d.size : Int) := by omega
          have rc1 : IntKind.i64.wrap ((jp : Int)) = (jp : Int) := by rw [IntKind.wrap_i64]; omega
          obtain ⟨x1, hx1⟩ : ∃ x, x = dj[jp + 1]! := ⟨_, rfl⟩
          obtain ⟨y1, hy1⟩ : ∃ x, x = dj[jp]! := ⟨_, rfl⟩
          have la1 := fun d_ os_ => (swk_re HZ.out S1.out d_ os_).load R (by omega) P (jp + 1) (by omega)
          have lb1 := fun d_ os_ => (swk_re HZ.out S1.out d_ os_).load R (by omega) P (jp) (by omega)
          rw [← hx1] at la1
          rw [← hy1] at lb1
          have hc1 := fun d_ os_ => HC.out (grow (redrawn wr d_) os_) dj (by omega) (swk_re HZ.out S1.out d_ os_) x1 y1
          have HX1 : Aside (x1 = dj[jp + 1]! ∧ y1 = dj[jp]!) := ⟨hx1, hy1⟩
          clear hx1 hy1
          by_cases hlv : cf x1 y1 < 0
          · have hd1 : decide (cf x1 y1 < 0) = true := decide_eq_true hlv
            have HL : Aside (cf x1 y1 < 0) := hlv
            clear hlv
            go_wp2_with fail
            refine wp_region_quiet_below (by assumption) (by kernel_rfl) ?_
            repeat (quiet_step (first | (go_at_fn g; refine Calls.regrown_of (hc1 _ _))))
            refine wpQuiet_nil ?_
            intro _ hw'
            obtain ⟨⟨nq, osq⟩, hw''⟩ := hw'
            subst hw''
            have S2 : Aside (SWK enc k w0 blk off dj (grow (redrawn wr nq) osq)) := swk_re HZ.out S1.out nq osq
            clear la1 lb1 hc1 S1
            generalize grow (redrawn wr nq) osq = w2 at S2 ⊢
            clear nq osq
            go_wp2_with fail
            have ea4 : ((jp : Int) + 1).toNat = jp + 1 := by omega
            have pa4 : (0 : Int) ≤ (jp : Int) + 1 := by omega
            have ba4 : (jp : Int) + 1 < (d.size : Int) := by omega
            have ra4 : IntKind.i64.wrap ((jp : Int) + 1) = (jp : Int) + 1 := by rw [IntKind.wrap_i64]; omega
            have ec4 : ((jp : Int)).toNat = jp := by omega
            have pc4 : (0 : Int) ≤ (jp : Int) := by omega
            have bc4 : (jp : Int) < (d.size : Int) := by omega
            have rc4 : IntKind.i64.wrap ((jp : Int)) = (jp : Int) := by rw [IntKind.wrap_i64]; omega
            have S9 : Aside (SWK enc k w0 blk off (swp dj (jp + 1) (jp)) ((w2.drew.setCells blk (off + (jp + 1) * k) (enc dj[jp]!)).setCells blk (off + (jp) * k) (enc dj[jp + 1]!))) := S2.out.swapped R (jp + 1) (jp) (by omega) (by omega)
            have l1 := S2.out.ld1 R (by omega) P (jp + 1) (by omega)
            have l2 := S2.out.ld1 R (by omega) P (jp) (by omega)
            have s1 := S2.out.st1 R (by omega) P (jp + 1) (by omega) dj[jp]!
            have s2 := S2.out.st2 R (by omega) P (jp + 1) (jp) (by omega) (by omega) dj[jp]! dj[jp + 1]!
            have n1 : (enc dj[jp + 1]!).length = k := R.hk _
            have n2 : (enc dj[jp]!).length = k := R.hk _
            generalize enc dj[jp + 1]! = cI at S9 l1 s2 n1
            generalize enc dj[jp]! = cJ at S9 l2 s1 s2 n2
            clear S2
            go_wp2_with fail
            go_big_region_o
            clear l1 l2 s1 s2
            generalize (w2.drew.setCells blk (off + (jp + 1) * k) cJ).setCells blk (off + (jp) * k) cI = w9 at S9 ⊢
            go_wp2
            go_roundg jp
            case measure => omega
            case rel =>
              refine ⟨jp, swp dj (jp + 1) jp, by first | rfl | go_num | (congr 1; omega), by omega, by omega, Nat.le_refl _, by rw [size_swp]; exact hsj, S9, ?_⟩
              show _ = _
              have := insInner_go (ltOf cf) a (jp + 1) dj hja (by simp only [Nat.add_sub_cancel]; rw [← HX1.out.1, ← HX1.out.2]; exact decide_eq_true HL.out)
              simp only [Nat.add_sub_cancel] at this
              rw [← HI.out, this]
          · have hd1 : decide (cf x1 y1 < 0) = false := decide_eq_false hlv
            have HL : Aside (¬ cf x1 y1 < 0) := hlv
            clear hlv
            go_wp2_with fail
            refine wp_region_quiet_below (by assumption) (by kernel_rfl) ?_
            repeat (quiet_step (first | (go_at_fn g; refine Calls.regrown_of (hc1 _ _))))
            refine wpQuiet_nil ?_
            intro _ hw'
            obtain ⟨⟨nq, osq⟩, hw''⟩ := hw'
            subst hw''
            have S2 : Aside (SWK enc k w0 blk off dj (grow (redrawn wr nq) osq)) := swk_re HZ.out S1.out nq osq
            clear la1 lb1 hc1 S1
            generalize grow (redrawn wr nq) osq = w2 at S2 ⊢
            clear nq osq
            go_wp2
            go_roundg (b - (i + 1))
            case measure => omega
            case rel => exact ⟨i + 1, dj, by go_num, by omega, by omega, by omega, hsj, S2, OUT.out (Or.inr (by simp only [Nat.add_sub_cancel]; rw [← HX1.out.1, ← HX1.out.2]; exact decide_eq_false (by have := HL.out; omega)))⟩
        · obtain rfl : a = j := by omega
          clear hja
          have S2 : Aside (SWK enc k w0 blk off dj wr.drew) := swk_drew HZ.out S1.out
          go_wp2_with fail
          go_big_region_o
          clear S1
          generalize wr.drew = w2 at S2 ⊢
          go_wp2
          go_roundg (b - (i + 1))
          case measure => omega
          case rel => exact ⟨i + 1, dj, by go_num, by omega, by omega, by omega, hsj, S2, OUT.out (Or.inl (by omega))⟩
    · have hltz : ¬ (i : Int) < (b : Int) := by omega
      go_wp2
      go_end0
      exact ⟨rfl, by unfold Sort.insertionSort; rw [← HO.out, insOuter_stop _ _ _ _ _ hlt]; exact S1.out⟩
end Go.Proofs.YtgbodlghggkmoaaDoor.Srt
