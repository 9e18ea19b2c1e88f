/- The library's SymMerge at elements of k cells. -/
import Derived.Test.YtgbodlghggkmoaaDoorSrtI
namespace Go.Proofs.YtgbodlghggkmoaaDoor.Srt
set_option linter.unusedVariables false
set_option linter.unusedSimpArgs false
open Go Go.Shelf Go.RowKit Go.Lib Go.Sort Go.Proofs Go.Proofs.YtgbodlghggkmoaaDoor.SrtP
variable {P : Program} {k : Nat} {α : Type} [Inhabited α] {enc : α → List Value} {g : Nat} {cb : Array Value} {blk off : Nat} {d0 : Array α} {w0 : World} {cf : α → α → Int}

theorem rot_step1 {a q : Nat} {d dk : Array α} (h : Rot a (a + 1) (q + 1) d dk) (ha : a ≤ q) (hq : q + 1 < d.size) : Rot a (a + 1) (q + 2) d (swp dk q (q + 1)) := by
  have hs := h.size
  have g := swp_get dk (show q < dk.size by omega) (show q + 1 < dk.size by omega)
  refine ⟨by rw [size_swp]; exact hs, fun i hi => ?_, fun t ht => ?_, fun t ht => ?_⟩
  · rw [g, if_neg (by omega), if_neg (by omega)]; exact h.out i (by omega)
  · rcases Nat.lt_or_ge t (q - a) with h1 | h1
    · rw [g, if_neg (by omega), if_neg (by omega)]; exact h.fst t (by omega)
    · rw [g, if_neg (by omega), if_pos (by omega), h.out _ (by omega), show a + 1 + t = q + 1 by omega]
  · have e := h.snd 0 (by omega)
    obtain rfl : t = 0 := by omega
    rw [g, if_pos (by omega), ← e]
    congr 1 <;> omega
theorem rot_step2 {m q : Nat} {d dk : Array α} (h : Rot (q + 1) m (m + 1) d dk) (hq : q + 1 ≤ m) (hm : m < d.size) : Rot q m (m + 1) d (swp dk (q + 1) q) := by
  have hs := h.size
  have g := swp_get dk (show q + 1 < dk.size by omega) (show q < dk.size by omega)
  refine ⟨by rw [size_swp]; exact hs, fun i hi => ?_, fun t ht => ?_, fun t ht => ?_⟩
  · rw [g, if_neg (by omega), if_neg (by omega)]; exact h.out i (by omega)
  · have e := h.fst 0 (by omega)
    obtain rfl : t = 0 := by omega
    rw [g, if_pos (by omega), ← e]
  · rcases Nat.eq_zero_or_pos t with h1 | h1
    · subst h1
      rw [g, if_neg (by omega), if_pos (by omega), h.out _ (by omega)]; rfl
    · have e := h.snd (t - 1) (by omega)
      rw [g, if_neg (by omega), if_neg (by omega)]
      rw [show q + (m + 1 - m) + t = q + 1 + (m + 1 - m) + (t - 1) by omega, e]
      congr 1 <;> omega

set_option maxHeartbeats 8000000 in
set_option maxRecDepth 1000000 in
theorem symM1 (L : SL P k) (cap a m b : Nat) (d : Array α) (w : World) (eg : ∀ args w, (callFunc g args).run P w = .ok (.enter g args) w) (hcmp : CmpB P g cb enc k cf blk off d0.size w0) (hz : w0.drawn = 0) (hO : SWO (ltOf cf))
    (R : RowK enc k w0 blk off d0) (hs : d0.size = d.size) (S : SWK enc k w0 blk off d w) (ha : a < m) (hb : m < b) (hbs : b ≤ d.size) (hsz : d.size < 4611686018427387904) (hA : SortedIn (ltOf cf) a m d) (hB : SortedIn (ltOf cf) m b d) (hone : m = a + 1) :
    Calls P 131 #[.slice (some ⟨blk, off, none⟩) d.size cap, .int .i64 a, .int .i64 m, .int .i64 b, .func (.func g) #[] cb] w fun e w' => e = .returned (.tuple #[]) ∧ ∃ d', Srt (ltOf cf) a b d d' ∧ SWK enc k w0 blk off d' w' := by
  have mixed := L.mixed; have aE := L.aE; have zE := L.zE; have t0 := L.t0; have a0 := L.a0; have z0 := L.z0; have v0 := L.v0; have t3 := L.t3; have a3 := L.a3; have z3 := L.z3; have v3 := L.v3; have t4 := L.t4; have a4 := L.a4; have z4 := L.z4; have v4 := L.v4; have t22 := L.t22; have a22 := L.a22; have z22 := L.z22; have v22 := L.v22; have t25 := L.t25; have a25 := L.a25; have z25 := L.z25; have v25 := L.v25; have t43 := L.t43; have a43 := L.a43; have z43 := L.z43; have v43 := L.v43
  have FG := L.fM
  have S0 : Aside (SWK enc k w0 blk off d w) := S
  have HC : Aside (CmpB P g cb enc k cf blk off d0.size w0) := hcmp
  have HZ : Aside (w0.drawn = 0) := hz
  have HA : Aside (SortedIn (ltOf cf) a m d) := hA
  have HBB : Aside (SortedIn (ltOf cf) m b d) := hB
  clear S hcmp hA hB hz
  have e0 : (m : Int) - (a : Int) = 1 := by omega
  have hone' : m ≤ a + 1 := by omega
  clear hone
  go_enter FG, Tryd.ntmps131
  go_wp2
  go_loopg [10, 11] (b - m) (fun kx s10 s11 wr => ∃ (i j : Nat) (dk : Array α), dk = d ∧ s10 = .int .i64 i ∧ s11 = .int .i64 j ∧ m ≤ i ∧ i ≤ j ∧ j ≤ b ∧ j - i ≤ kx ∧ Aside (SWK enc k w0 blk off dk wr) ∧ Aside ((∀ p, m ≤ p → p < i → ltOf cf d[p]! d[a]! = true) ∧ (∀ p, j ≤ p → p < b → ltOf cf d[p]! d[a]! = false)))
  case atStart => exact ⟨m, b, d, rfl, rfl, rfl, by omega, by omega, by omega, by omega, S0, ⟨fun p h1 h2 => by omega, fun p h1 h2 => by omega⟩⟩
  case round =>
    clear S0
    obtain ⟨i, j, dk, hdk, rfl, rfl, h1, h2, h3, hkx, S1, W1⟩ := hrel
    by_cases hlt : i < j
    · have hltz : (i : Int) < (j : Int) := by omega
      have hh : (i + j) / 2 < j ∧ i ≤ (i + j) / 2 := by omega
      have hds : dk.size = d.size := by rw [hdk]
      have HD : Aside (dk = d) := hdk
      clear hdk
      have ea1 : (((i : Int) + (j : Int)) / 2).toNat = (i + j) / 2 := by omega
      have pa1 : (0 : Int) ≤ ((i : Int) + (j : Int)) / 2 := by omega
      have ba1 : ((i : Int) + (j : Int)) / 2 < (d.size : Int) := by omega
      have ra1 : IntKind.i64.wrap (((i : Int) + (j : Int)) / 2) = ((i : Int) + (j : Int)) / 2 := by rw [IntKind.wrap_i64]; omega
      have ec1 : ((a : Int)).toNat = a := by omega
      have pc1 : (0 : Int) ≤ (a : Int) := by omega
      have bc1 : (a : Int) < (d.size : Int) := by omega
      have rc1 : IntKind.i64.wrap ((a : Int)) = (a : Int) := by rw [IntKind.wrap_i64]; omega
      obtain ⟨x1, hx1⟩ : ∃ x, x = dk[(i + j) / 2]! := ⟨_, rfl⟩
      obtain ⟨y1, hy1⟩ : ∃ x, x = dk[a]! := ⟨_, rfl⟩
      have la1 := fun d_ os_ => (swk_re HZ.out S1.out d_ os_).load R (by omega) P ((i + j) / 2) (by omega)
      have lb1 := fun d_ os_ => (swk_re HZ.out S1.out d_ os_).load R (by omega) P (a) (by omega)
      rw [← hx1] at la1
      rw [← hy1] at lb1
      have hc1 := fun d_ os_ => HC.out (grow (redrawn wr d_) os_) dk (by omega) (swk_re HZ.out S1.out d_ os_) x1 y1
      have HX1 : Aside (x1 = dk[(i + j) / 2]! ∧ y1 = dk[a]!) := ⟨hx1, hy1⟩
      clear hx1 hy1
      by_cases hL : cf x1 y1 < 0
      · have hd1 : decide (cf x1 y1 < 0) = true := decide_eq_true hL
        have HL : Aside (cf x1 y1 < 0) := hL
        clear hL
        go_wp2_with fail
        refine wp_region_quiet_below (by assumption) (by kernel_rfl) ?_
        repeat (quiet_step (first | (go_at_fn g; refine Calls.regrown_of (hc1 _ _))))
        refine wpQuiet_nil ?_
        intro _ hw'
        obtain ⟨⟨nq, osq⟩, hw''⟩ := hw'
        subst hw''
        have S2 : Aside (SWK enc k w0 blk off dk (grow (redrawn wr nq) osq)) := swk_re HZ.out S1.out nq osq
        clear la1 lb1 hc1 S1
        generalize grow (redrawn wr nq) osq = w2 at S2 ⊢
        clear nq osq
        go_wp2
        go_roundg (j - ((i + j) / 2 + 1))
        case measure => omega
        case rel =>
          have hd := HD.out
          refine ⟨(i + j) / 2 + 1, j, dk, hd, by go_num, rfl, by omega, by omega, by omega, by omega, S2, ⟨fun p p1 p2 => ?_, W1.out.2⟩⟩
          have hl := HL.out
          rw [HX1.out.1, HX1.out.2, hd] at hl
          rcases Nat.lt_or_ge p ((i + j) / 2) with h5 | h5
          · have h6 := HBB.out p ((i + j) / 2) p1 h5 (by omega)
            cases hx : ltOf cf d[p]! d[a]! with
            | true => rfl
            | false =>
              have h7 := hO.ntrans _ _ _ h6 hx
              rw [show ltOf cf d[(i + j) / 2]! d[a]! = true from decide_eq_true hl] at h7
              cases h7
          · rw [show p = (i + j) / 2 by omega]; exact decide_eq_true hl
      · have hd1 : decide (cf x1 y1 < 0) = false := decide_eq_false hL
        have HL : Aside (¬ cf x1 y1 < 0) := hL
        clear hL
        go_wp2_with fail
        refine wp_region_quiet_below (by assumption) (by kernel_rfl) ?_
        repeat (quiet_step (first | (go_at_fn g; refine Calls.regrown_of (hc1 _ _))))
        refine wpQuiet_nil ?_
        intro _ hw'
        obtain ⟨⟨nq, osq⟩, hw''⟩ := hw'
        subst hw''
        have S2 : Aside (SWK enc k w0 blk off dk (grow (redrawn wr nq) osq)) := swk_re HZ.out S1.out nq osq
        clear la1 lb1 hc1 S1
        generalize grow (redrawn wr nq) osq = w2 at S2 ⊢
        clear nq osq
        go_wp2
        go_roundg ((i + j) / 2 - i)
        case measure => omega
        case rel =>
          have hd := HD.out
          refine ⟨i, (i + j) / 2, dk, hd, rfl, by go_num, by omega, by omega, by omega, by omega, S2, ⟨W1.out.1, fun p p1 p2 => ?_⟩⟩
          have hl := HL.out
          rw [HX1.out.1, HX1.out.2, hd] at hl
          have h5 : ltOf cf d[(i + j) / 2]! d[a]! = false := decide_eq_false (by omega)
          rcases Nat.lt_or_ge ((i + j) / 2) p with h6 | h6
          · exact hO.ntrans _ _ _ (HBB.out _ p (by omega) h6 p2) h5
          · rw [show p = (i + j) / 2 by omega]; exact h5
    · obtain rfl : i = j := by omega
      have HD : Aside (dk = d) := hdk
      have S3 : Aside (SWK enc k w0 blk off d wr) := by rw [← hdk]; exact S1
      clear S1 hdk
      go_wp2
      go_loopg [13] (i - 1 - a) (fun kx s13 wr => ∃ (q : Nat) (dk : Array α), s13 = .int .i64 q ∧ a ≤ q ∧ q + 1 ≤ i ∧ i - 1 - q ≤ kx ∧ dk.size = d.size ∧ Aside (SWK enc k w0 blk off dk wr) ∧ Aside (Rot a (a + 1) (q + 1) d dk))
      case atStart => exact ⟨a, d, rfl, by omega, by omega, by omega, rfl, S3, Rot.same d (.inr (by omega)) (by omega) (by omega)⟩
      case round =>
        clear S3
        obtain ⟨q, dk, rfl, q1, q2, q3, hds, S4, W4⟩ := hrel
        by_cases hq : q + 1 < i
        · have hqz : (q : Int) < (i : Int) - 1 := by omega
          have ea4 : ((q : Int)).toNat = q := by omega
          have pa4 : (0 : Int) ≤ (q : Int) := by omega
          have ba4 : (q : Int) < (d.size : Int) := by omega
          have ra4 : IntKind.i64.wrap ((q : Int)) = (q : Int) := by rw [IntKind.wrap_i64]; omega
          have ec4 : ((q : Int) + 1).toNat = q + 1 := by omega
          have pc4 : (0 : Int) ≤ (q : Int) + 1 := by omega
          have bc4 : (q : Int) + 1 < (d.size : Int) := by omega
          have rc4 : IntKind.i64.wrap ((q : Int) + 1) = (q : Int) + 1 := by rw [IntKind.wrap_i64]; omega
          have S9 : Aside (SWK enc k w0 blk off (swp dk (q) (q + 1)) ((wr.drew.setCells blk (off + (q) * k) (enc dk[q + 1]!)).setCells blk (off + (q + 1) * k) (enc dk[q]!))) := S4.out.swapped R (q) (q + 1) (by omega) (by omega)
          have l1 := S4.out.ld1 R (by omega) P (q) (by omega)
          have l2 := S4.out.ld1 R (by omega) P (q + 1) (by omega)
          have s1 := S4.out.st1 R (by omega) P (q) (by omega) dk[q + 1]!
          have s2 := S4.out.st2 R (by omega) P (q) (q + 1) (by omega) (by omega) dk[q + 1]! dk[q]!
          have n1 : (enc dk[q]!).length = k := R.hk _
          have n2 : (enc dk[q + 1]!).length = k := R.hk _
          generalize enc dk[q]! = cI at S9 l1 s2 n1
          generalize enc dk[q + 1]! = cJ at S9 l2 s1 s2 n2
          clear S4
          go_wp2_with fail
          go_big_region_o
          clear l1 l2 s1 s2
          generalize (wr.drew.setCells blk (off + (q) * k) cJ).setCells blk (off + (q + 1) * k) cI = w9 at S9 ⊢
          go_wp2
          go_roundg (i - 1 - (q + 1))
          case measure => omega
          case rel => exact ⟨q + 1, swp dk q (q + 1), by go_num, by omega, by omega, by omega, by rw [size_swp]; exact hds, S9, rot_step1 W4.out q1 (by omega)⟩
        · obtain rfl : i = q + 1 := by omega
          go_wp2
          (try simp only [Exit.inBlock, Exit.then]); refine bodyPost_ret (results_none rfl _ _ _) rfl ?_
          obtain rfl : m = a + 1 := by omega
          exact ⟨rfl, dk, merge1 hO h1 (by omega) HBB.out W1.out.1 W1.out.2 W4.out, S4.out⟩

set_option maxHeartbeats 8000000 in
set_option maxRecDepth 1000000 in
theorem symM2 (L : SL P k) (cap a m b : Nat) (d : Array α) (w : World) (eg : ∀ args w, (callFunc g args).run P w = .ok (.enter g args) w) (hcmp : CmpB P g cb enc k cf blk off d0.size w0) (hz : w0.drawn = 0) (hO : SWO (ltOf cf))
    (R : RowK enc k w0 blk off d0) (hs : d0.size = d.size) (S : SWK enc k w0 blk off d w) (ha : a < m) (hb : m < b) (hbs : b ≤ d.size) (hsz : d.size < 4611686018427387904) (hA : SortedIn (ltOf cf) a m d) (hB : SortedIn (ltOf cf) m b d) (hone : b = m + 1) (htwo : m ≠ a + 1) :
    Calls P 131 #[.slice (some ⟨blk, off, none⟩) d.size cap, .int .i64 a, .int .i64 m, .int .i64 b, .func (.func g) #[] cb] w fun e w' => e = .returned (.tuple #[]) ∧ ∃ d', Srt (ltOf cf) a b d d' ∧ SWK enc k w0 blk off d' w' := by
  have mixed := L.mixed; have aE := L.aE; have zE := L.zE; have t0 := L.t0; have a0 := L.a0; have z0 := L.z0; have v0 := L.v0; have t3 := L.t3; have a3 := L.a3; have z3 := L.z3; have v3 := L.v3; have t4 := L.t4; have a4 := L.a4; have z4 := L.z4; have v4 := L.v4; have t22 := L.t22; have a22 := L.a22; have z22 := L.z22; have v22 := L.v22; have t25 := L.t25; have a25 := L.a25; have z25 := L.z25; have v25 := L.v25; have t43 := L.t43; have a43 := L.a43; have z43 := L.z43; have v43 := L.v43
  have FG := L.fM
  have S0 : Aside (SWK enc k w0 blk off d w) := S
  have HC : Aside (CmpB P g cb enc k cf blk off d0.size w0) := hcmp
  have HZ : Aside (w0.drawn = 0) := hz
  have HA : Aside (SortedIn (ltOf cf) a m d) := hA
  have HBB : Aside (SortedIn (ltOf cf) m b d) := hB
  clear S hcmp hA hB hz
  have e0 : (b : Int) - (m : Int) = 1 := by omega
  have e00 : ((m : Int) - (a : Int) == 1) = false := by simp; omega
  have hone' : b ≤ m + 1 := by omega
  clear hone htwo
  go_enter FG, Tryd.ntmps131
  go_wp2
  go_loopg [14, 15] (m - a) (fun kx s10 s11 wr => ∃ (i j : Nat) (dk : Array α), dk = d ∧ s10 = .int .i64 i ∧ s11 = .int .i64 j ∧ a ≤ i ∧ i ≤ j ∧ j ≤ m ∧ j - i ≤ kx ∧ Aside (SWK enc k w0 blk off dk wr) ∧ Aside ((∀ p, a ≤ p → p < i → ltOf cf d[m]! d[p]! = false) ∧ (∀ p, j ≤ p → p < m → ltOf cf d[m]! d[p]! = true)))
  case atStart => exact ⟨a, m, d, rfl, rfl, rfl, by omega, by omega, by omega, by omega, S0, ⟨fun p h1 h2 => by omega, fun p h1 h2 => by omega⟩⟩
  case round =>
    clear S0
    obtain ⟨i, j, dk, hdk, rfl, rfl, h1, h2, h3, hkx, S1, W1⟩ := hrel
    by_cases hlt : i < j
    · have hltz : (i : Int) < (j : Int) := by omega
      have hh : (i + j) / 2 < j ∧ i ≤ (i + j) / 2 := by omega
      have hds : dk.size = d.size := by rw [hdk]
      have HD : Aside (dk = d) := hdk
      clear hdk
      have ea1 : ((m : Int)).toNat = m := by omega
      have pa1 : (0 : Int) ≤ (m : Int) := by omega
      have ba1 : (m : Int) < (d.size : Int) := by omega
      have ra1 : IntKind.i64.wrap ((m : Int)) = (m : Int) := by rw [IntKind.wrap_i64]; omega
      have ec1 : (((i : Int) + (j : Int)) / 2).toNat = (i + j) / 2 := by omega
      have pc1 : (0 : Int) ≤ ((i : Int) + (j : Int)) / 2 := by omega
      have bc1 : ((i : Int) + (j : Int)) / 2 < (d.size : Int) := by omega
      have rc1 : IntKind.i64.wrap (((i : Int) + (j : Int)) / 2) = ((i : Int) + (j : Int)) / 2 := by rw [IntKind.wrap_i64]; omega
      obtain ⟨x1, hx1⟩ : ∃ x, x = dk[m]! := ⟨_, rfl⟩
      obtain ⟨y1, hy1⟩ : ∃ x, x = dk[(i + j) / 2]! := ⟨_, rfl⟩
      have la1 := fun d_ os_ => (swk_re HZ.out S1.out d_ os_).load R (by omega) P (m) (by omega)
      have lb1 := fun d_ os_ => (swk_re HZ.out S1.out d_ os_).load R (by omega) P ((i + j) / 2) (by omega)
      rw [← hx1] at la1
      rw [← hy1] at lb1
      have hc1 := fun d_ os_ => HC.out (grow (redrawn wr d_) os_) dk (by omega) (swk_re HZ.out S1.out d_ os_) x1 y1
      have HX1 : Aside (x1 = dk[m]! ∧ y1 = dk[(i + j) / 2]!) := ⟨hx1, hy1⟩
      clear hx1 hy1
      by_cases hL : cf x1 y1 < 0
      · have hd1 : decide (cf x1 y1 < 0) = true := decide_eq_true hL
        have HL : Aside (cf x1 y1 < 0) := hL
        clear hL
        go_wp2_with fail
        refine wp_region_quiet_below (by assumption) (by kernel_rfl) ?_
        repeat (quiet_step (first | (go_at_fn g; refine Calls.regrown_of (hc1 _ _))))
        refine wpQuiet_nil ?_
        intro _ hw'
        obtain ⟨⟨nq, osq⟩, hw''⟩ := hw'
        subst hw''
        have S2 : Aside (SWK enc k w0 blk off dk (grow (redrawn wr nq) osq)) := swk_re HZ.out S1.out nq osq
        clear la1 lb1 hc1 S1
        generalize grow (redrawn wr nq) osq = w2 at S2 ⊢
        clear nq osq
        go_wp2
        go_roundg ((i + j) / 2 - i)
        case measure => omega
        case rel =>
          have hd := HD.out
          refine ⟨i, (i + j) / 2, dk, hd, rfl, by go_num, by omega, by omega, by omega, by omega, S2, ⟨W1.out.1, fun p p1 p2 => ?_⟩⟩
          have hl := HL.out
          rw [HX1.out.1, HX1.out.2, hd] at hl
          have h5 : ltOf cf d[m]! d[(i + j) / 2]! = true := decide_eq_true hl
          rcases Nat.lt_or_ge ((i + j) / 2) p with h6 | h6
          · have h7 := HA.out ((i + j) / 2) p (by omega) h6 p2
            cases hx : ltOf cf d[m]! d[p]! with
            | true => rfl
            | false =>
              have h8 := hO.ntrans _ _ _ hx h7
              rw [h5] at h8; cases h8
          · rw [show p = (i + j) / 2 by omega]; exact h5
      · have hd1 : decide (cf x1 y1 < 0) = false := decide_eq_false hL
        have HL : Aside (¬ cf x1 y1 < 0) := hL
        clear hL
        go_wp2_with fail
        refine wp_region_quiet_below (by assumption) (by kernel_rfl) ?_
        repeat (quiet_step (first | (go_at_fn g; refine Calls.regrown_of (hc1 _ _))))
        refine wpQuiet_nil ?_
        intro _ hw'
        obtain ⟨⟨nq, osq⟩, hw''⟩ := hw'
        subst hw''
        have S2 : Aside (SWK enc k w0 blk off dk (grow (redrawn wr nq) osq)) := swk_re HZ.out S1.out nq osq
        clear la1 lb1 hc1 S1
        generalize grow (redrawn wr nq) osq = w2 at S2 ⊢
        clear nq osq
        go_wp2
        go_roundg (j - ((i + j) / 2 + 1))
        case measure => omega
        case rel =>
          have hd := HD.out
          refine ⟨(i + j) / 2 + 1, j, dk, hd, by go_num, rfl, by omega, by omega, by omega, by omega, S2, ⟨fun p p1 p2 => ?_, W1.out.2⟩⟩
          have hl := HL.out
          rw [HX1.out.1, HX1.out.2, hd] at hl
          have h5 : ltOf cf d[m]! d[(i + j) / 2]! = false := decide_eq_false (by omega)
          rcases Nat.lt_or_ge p ((i + j) / 2) with h6 | h6
          · exact hO.ntrans _ _ _ h5 (HA.out p _ p1 h6 (by omega))
          · rw [show p = (i + j) / 2 by omega]; exact h5
    · obtain rfl : i = j := by omega
      have HD : Aside (dk = d) := hdk
      have S3 : Aside (SWK enc k w0 blk off d wr) := by rw [← hdk]; exact S1
      clear S1 hdk
      go_wp2
      go_loopg [17] (m - i) (fun kx s17 wr => ∃ (q : Nat) (dk : Array α), s17 = .int .i64 q ∧ i ≤ q ∧ q ≤ m ∧ q - i ≤ kx ∧ dk.size = d.size ∧ Aside (SWK enc k w0 blk off dk wr) ∧ Aside (Rot q m (m + 1) d dk))
      case atStart => exact ⟨m, d, rfl, by omega, by omega, by omega, rfl, S3, Rot.same d (.inl (by omega)) (by omega) (by omega)⟩
      case round =>
        clear S3
        obtain ⟨q, dk, rfl, q1, q2, q3, hds, S4, W4⟩ := hrel
        by_cases hq : i < q
        · obtain ⟨q, rfl⟩ : ∃ q', q = q' + 1 := ⟨q - 1, by omega⟩
          have hqz : (i : Int) < (q : Int) + 1 := by omega
          have ea4 : ((q : Int) + 1).toNat = q + 1 := by omega
          have pa4 : (0 : Int) ≤ (q : Int) + 1 := by omega
          have ba4 : (q : Int) + 1 < (d.size : Int) := by omega
          have ra4 : IntKind.i64.wrap ((q : Int) + 1) = (q : Int) + 1 := by rw [IntKind.wrap_i64]; omega
          have ec4 : ((q : Int)).toNat = q := by omega
          have pc4 : (0 : Int) ≤ (q : Int) := by omega
          have bc4 : (q : Int) < (d.size : Int) := by omega
          have rc4 : IntKind.i64.wrap ((q : Int)) = (q : Int) := by rw [IntKind.wrap_i64]; omega
          have S9 : Aside (SWK enc k w0 blk off (swp dk (q + 1) (q)) ((wr.drew.setCells blk (off + (q + 1) * k) (enc dk[q]!)).setCells blk (off + (q) * k) (enc dk[q + 1]!))) := S4.out.swapped R (q + 1) (q) (by omega) (by omega)
          have l1 := S4.out.ld1 R (by omega) P (q + 1) (by omega)
          have l2 := S4.out.ld1 R (by omega) P (q) (by omega)
          have s1 := S4.out.st1 R (by omega) P (q + 1) (by omega) dk[q]!
          have s2 := S4.out.st2 R (by omega) P (q + 1) (q) (by omega) (by omega) dk[q]! dk[q + 1]!
          have n1 : (enc dk[q + 1]!).length = k := R.hk _
          have n2 : (enc dk[q]!).length = k := R.hk _
          generalize enc dk[q + 1]! = cI at S9 l1 s2 n1
          generalize enc dk[q]! = cJ at S9 l2 s1 s2 n2
          clear S4
          go_wp2_with fail
          go_big_region_o
          clear l1 l2 s1 s2
          generalize (wr.drew.setCells blk (off + (q + 1) * k) cJ).setCells blk (off + (q) * k) cI = w9 at S9 ⊢
          go_wp2
          go_roundg (q - i)
          case measure => omega
          case rel => exact ⟨q, swp dk (q + 1) q, by first | rfl | go_num, by omega, by omega, by omega, by rw [size_swp]; exact hds, S9, rot_step2 W4.out q2 (by omega)⟩
        · obtain rfl : i = q := by omega
          go_wp2
          (try simp only [Exit.inBlock, Exit.then]); refine bodyPost_ret (results_none rfl _ _ _) rfl ?_
          obtain rfl : b = m + 1 := by omega
          exact ⟨rfl, dk, merge2 hO h1 q2 HA.out W1.out.1 W1.out.2 W4.out, S4.out⟩
end Go.Proofs.YtgbodlghggkmoaaDoor.Srt
