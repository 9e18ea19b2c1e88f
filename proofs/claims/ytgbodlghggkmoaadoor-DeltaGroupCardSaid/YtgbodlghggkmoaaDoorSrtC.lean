/- The library's SymMerge at elements of k cells. -/
import Derived.Test.YtgbodlghggkmoaaDoorSrtB
import Derived.Deep.DeepCutAuto
import Derived.Deep.CutBlock
namespace Go.Proofs.YtgbodlghggkmoaaDoor.Srt
set_option linter.unusedVariables false
set_option linter.unusedSimpArgs false
open Go Go.Shelf Go.RowKit Go.Lib Go.Sort Go.Proofs Go.Proofs.YtgbodlghggkmoaaDoor.SrtP
variable {P : Program} {k : Nat} {α : Type} [Inhabited α] {enc : α → List Value} {g : Nat} {cb : Array Value} {blk off : Nat} {d0 : Array α} {w0 : World} {cf : α → α → Int}

set_option maxHeartbeats 8000000 in
set_option maxRecDepth 1000000 in
theorem symM3 (L : SL P k) (cap a m b : Nat) (d : Array α) (w : World) (eg : ∀ args w, (callFunc g args).run P w = .ok (.enter g args) w) (hcmp : CmpB P g cb enc k cf blk off d0.size w0) (hz : w0.drawn = 0) (hO : SWO (ltOf cf))
    (R : RowK enc k w0 blk off d0) (hs : d0.size = d.size) (S : SWK enc k w0 blk off d w) (ha : a < m) (hb : m < b) (hbs : b ≤ d.size) (hsz : d.size < 4611686018427387904) (hA : SortedIn (ltOf cf) a m d) (hB : SortedIn (ltOf cf) m b d) (hone : b ≠ m + 1) (htwo : m ≠ a + 1)
    (ih : ∀ (a' m' b' : Nat) (d' : Array α) (w' : World), b' - a' < b - a → d0.size = d'.size → SWK enc k w0 blk off d' w' → a' < m' → m' < b' → b' ≤ d'.size → d'.size < 4611686018427387904 → SortedIn (ltOf cf) a' m' d' → SortedIn (ltOf cf) m' b' d' →
      Calls P 131 #[.slice (some ⟨blk, off, none⟩) d'.size cap, .int .i64 a', .int .i64 m', .int .i64 b', .func (.func g) #[] cb] w' fun e w1 => e = .returned (.tuple #[]) ∧ ∃ d1, Srt (ltOf cf) a' b' d' d1 ∧ SWK enc k w0 blk off d1 w1) :
    Calls P 131 #[.slice (some ⟨blk, off, none⟩) d.size cap, .int .i64 a, .int .i64 m, .int .i64 b, .func (.func g) #[] cb] w fun e w' => e = .returned (.tuple #[]) ∧ ∃ d', Srt (ltOf cf) a b d d' ∧ SWK enc k w0 blk off d' w' := by
  have mixed := L.mixed; have aE := L.aE; have zE := L.zE; have t0 := L.t0; have a0 := L.a0; have z0 := L.z0; have v0 := L.v0; have t3 := L.t3; have a3 := L.a3; have z3 := L.z3; have v3 := L.v3; have t4 := L.t4; have a4 := L.a4; have z4 := L.z4; have v4 := L.v4; have t22 := L.t22; have a22 := L.a22; have z22 := L.z22; have v22 := L.v22; have t25 := L.t25; have a25 := L.a25; have z25 := L.z25; have v25 := L.v25; have t43 := L.t43; have a43 := L.a43; have z43 := L.z43; have v43 := L.v43
  have FG := L.fM
  have S0 : Aside (SWK enc k w0 blk off d w) := S
  have HC : Aside (CmpB P g cb enc k cf blk off d0.size w0) := hcmp
  have HZ : Aside (w0.drawn = 0) := hz
  have HA : Aside (SortedIn (ltOf cf) a m d) := hA
  have HBB : Aside (SortedIn (ltOf cf) m b d) := hB
  clear S hcmp hA hB hz
  have e00 : ((m : Int) - (a : Int) == 1) = false := by simp; omega
  have e01 : ((b : Int) - (m : Int) == 1) = false := by simp; omega
  have eR : ∀ args w, (callFunc 140 args).run P w = .ok (.enter 140 args) w := enters_of L.fR (by kernel_rfl) rfl
  have eM : ∀ args w, (callFunc 131 args).run P w = .ok (.enter 131 args) w := enters_of L.fM (by kernel_rfl) rfl
  have eq1 : IntKind.i64.wrap ((a : Int) + (b : Int)) = (a : Int) + (b : Int) := by rw [IntKind.wrap_i64]; omega
  obtain ⟨c, hc⟩ : ∃ c, c = (a + b) / 2 := ⟨_, rfl⟩
  have ec : ((a : Int) + (b : Int)) / 2 = (c : Int) := by omega
  have c1 : a < c := by omega
  have c2 : c < b := by omega
  have cc : 2 * c ≤ a + b ∧ a + b ≤ 2 * c + 1 := by omega
  clear hone htwo hc
  have start : ∃ s0 r0 : Nat, a ≤ s0 ∧ s0 ≤ r0 ∧ r0 ≤ m ∧ r0 ≤ c ∧ c + m ≤ s0 + b ∧ (r0 = m ∨ r0 = c) ∧ (s0 = a ∨ s0 + b = c + m) ∧ (m ≤ c → s0 = a ∧ r0 = m) ∧ (¬ m ≤ c → s0 + b = c + m ∧ r0 = c) := by
    by_cases h : m ≤ c
    · exact ⟨a, m, by omega, by omega, by omega, by omega, by omega, .inl rfl, .inl rfl, fun _ => ⟨rfl, rfl⟩, fun h2 => absurd h h2⟩
    · exact ⟨c + m - b, c, by omega, by omega, by omega, by omega, by omega, .inr rfl, .inr (by omega), fun h2 => absurd h2 h, fun _ => ⟨by omega, rfl⟩⟩
  obtain ⟨s0, r0, p1, p2, p3, p4, p5, p6, p7, p8, p9⟩ := start
  go_enter FG, Tryd.ntmps131
  go_upto_if 140 with (fail)
  go_cut [20, 21] (fun v20 v21 wc => v20 = .int .i64 s0 ∧ v21 = .int .i64 r0 ∧ Aside (SWK enc k w0 blk off d wc))
  case first => as_aux_lemma =>
    by_cases h : m ≤ c
    · have hz : ¬ (c : Int) < (m : Int) := by omega
      have q8 : Aside _ := p8 h
      clear p8 p9
      go_wp2
      go_meet
      case rel => exact ⟨by rw [q8.out.1], by rw [q8.out.2], S0⟩
    · have hz : (c : Int) < (m : Int) := by omega
      have q8 : Aside _ := p9 h
      have q10 : (c : Int) + (m : Int) - (b : Int) = (s0 : Int) := by have := q8.out; omega
      clear p8 p9
      go_wp2
      go_meet
      case rel => exact ⟨rfl, by rw [q8.out.2], S0⟩
  case rest =>
    clear S0
    obtain ⟨rfl, rfl, S0⟩ := hcut
    have p89 : Aside ((m ≤ c → s0 = a ∧ r0 = m) ∧ (¬ m ≤ c → s0 + b = c + m ∧ r0 = c)) := ⟨p8, p9⟩
    clear p6 p7 p8 p9
    have en : IntKind.i64.wrap ((c : Int) + (m : Int) - 1) = (c : Int) + (m : Int) - 1 := by rw [IntKind.wrap_i64]; omega
    go_wp2
    go_loopg [20, 21] (r0 - s0) (fun kx v20 v21 wr => ∃ (i j : Nat) (dk : Array α), dk = d ∧ v20 = .int .i64 i ∧ v21 = .int .i64 j ∧ s0 ≤ i ∧ i ≤ j ∧ j ≤ r0 ∧ j - i ≤ kx ∧ Aside (SWK enc k w0 blk off dk wr) ∧ Aside ((∀ p, s0 ≤ p → p < i → ltOf cf d[c + m - 1 - p]! d[p]! = false) ∧ (∀ p, j ≤ p → p < r0 → ltOf cf d[c + m - 1 - p]! d[p]! = true)))
    case atStart => exact ⟨s0, r0, d, rfl, rfl, rfl, by omega, by omega, by omega, by omega, S0, ⟨fun p h1 h2 => by omega, fun p h1 h2 => by omega⟩⟩
    case round =>
      clear S0
      obtain ⟨i, j, dk, hdk, rfl, rfl, h1, h2, h3, hkx, S1, W1⟩ := hrel
      by_cases hlt : i < j
      · have hltz : (i : Int) < (j : Int) := by omega
        have hh : (i + j) / 2 < j ∧ i ≤ (i + j) / 2 := by omega
        have hds : dk.size = d.size := by rw [hdk]
        have HD : Aside (dk = d) := hdk
        clear hdk
        obtain ⟨h, hh0⟩ : ∃ h, h = (i + j) / 2 := ⟨_, rfl⟩
        have eh : ((i : Int) + (j : Int)) / 2 = (h : Int) := by omega
        rw [← hh0] at hh
        have hhr : a ≤ h ∧ h < m ∧ m ≤ c + m - 1 - h ∧ c + m - 1 - h < b ∧ h ≤ c + m - 1 := by omega
        clear hh0
        obtain ⟨q, hq⟩ : ∃ q, q = c + m - 1 - h := ⟨_, rfl⟩
        have rq : IntKind.i64.wrap ((c : Int) + (m : Int) - 1 - (h : Int)) = (q : Int) := by rw [IntKind.wrap_i64]; omega
        have HQ : Aside (q = c + m - 1 - h) := hq
        have hqs : q < d.size := by omega
        clear hq
        have ea1 : ((q : Int)).toNat = q := by omega
        have pa1 : (0 : Int) ≤ (q : Int) := by omega
        have ba1 : (q : Int) < (d.size : Int) := by omega
        have ra1 : IntKind.i64.wrap ((q : Int)) = (q : Int) := by rw [IntKind.wrap_i64]; omega
        have ec1 : ((h : Int)).toNat = h := by omega
        have pc1 : (0 : Int) ≤ (h : Int) := by omega
        have bc1 : (h : Int) < (d.size : Int) := by omega
        have rc1 : IntKind.i64.wrap ((h : Int)) = (h : Int) := by rw [IntKind.wrap_i64]; omega
        obtain ⟨x1, hx1⟩ : ∃ x, x = dk[q]! := ⟨_, rfl⟩
        obtain ⟨y1, hy1⟩ : ∃ x, x = dk[h]! := ⟨_, rfl⟩
        have la1 := fun d_ os_ => (swk_re HZ.out S1.out d_ os_).load R (by omega) P (q) (by omega)
        have lb1 := fun d_ os_ => (swk_re HZ.out S1.out d_ os_).load R (by omega) P (h) (by omega)
        rw [← hx1] at la1
        rw [← hy1] at lb1
        have hc1 := fun d_ os_ => HC.out (grow (redrawn wr d_) os_) dk (by omega) (swk_re HZ.out S1.out d_ os_) x1 y1
        have HX1 : Aside (x1 = dk[q]! ∧ y1 = dk[h]!) := ⟨hx1, hy1⟩
        clear hx1 hy1
        by_cases hL : cf x1 y1 < 0
        · as_aux_lemma =>
          have hd1 : decide (cf x1 y1 < 0) = true := decide_eq_true hL
          have HL : Aside (cf x1 y1 < 0) := hL
          clear hL
          go_wp2_with fail
          refine wp_region_quiet_below (by assumption) (by kernel_rfl) ?_
          repeat (quiet_step (first | (go_at_fn g; refine Calls.regrown_of (hc1 _ _))))
          refine wpQuiet_nil ?_
          intro _ hw'
          obtain ⟨⟨nq, osq⟩, hw''⟩ := hw'
          subst hw''
          have S2 : Aside (SWK enc k w0 blk off dk (grow (redrawn wr nq) osq)) := swk_re HZ.out S1.out nq osq
          clear la1 lb1 hc1 S1
          generalize grow (redrawn wr nq) osq = w2 at S2 ⊢
          clear nq osq
          go_wp2
          go_roundg (h - i)
          case measure => omega
          case rel =>
            have hd := HD.out
            refine ⟨i, h, dk, hd, rfl, rfl, by omega, by omega, by omega, by omega, S2, ⟨W1.out.1, fun p p1 p2 => ?_⟩⟩
            have hl := HL.out
            rw [HX1.out.1, HX1.out.2, hd, HQ.out] at hl
            have h5 : ltOf cf d[c + m - 1 - h]! d[h]! = true := decide_eq_true hl
            rcases Nat.lt_or_ge h p with h6 | h6
            · have h7 := HA.out h p (by omega) h6 (by omega)
              have h8 := HBB.out (c + m - 1 - p) (c + m - 1 - h) (by omega) (by omega) (by omega)
              cases hx : ltOf cf d[c + m - 1 - p]! d[p]! with
              | true => rfl
              | false =>
                have h9 := hO.ntrans _ _ _ (hO.ntrans _ _ _ h8 hx) h7
                rw [h5] at h9; cases h9
            · rw [show p = h by omega]; exact h5
        · as_aux_lemma =>
          have hd1 : decide (cf x1 y1 < 0) = false := decide_eq_false hL
          have HL : Aside (¬ cf x1 y1 < 0) := hL
          clear hL
          go_wp2_with fail
          refine wp_region_quiet_below (by assumption) (by kernel_rfl) ?_
          repeat (quiet_step (first | (go_at_fn g; refine Calls.regrown_of (hc1 _ _))))
          refine wpQuiet_nil ?_
          intro _ hw'
          obtain ⟨⟨nq, osq⟩, hw''⟩ := hw'
          subst hw''
          have S2 : Aside (SWK enc k w0 blk off dk (grow (redrawn wr nq) osq)) := swk_re HZ.out S1.out nq osq
          clear la1 lb1 hc1 S1
          generalize grow (redrawn wr nq) osq = w2 at S2 ⊢
          clear nq osq
          go_wp2
          go_roundg (j - (h + 1))
          case measure => omega
          case rel =>
            have hd := HD.out
            refine ⟨h + 1, j, dk, hd, by go_num, rfl, by omega, by omega, by omega, by omega, S2, ⟨fun p p1 p2 => ?_, W1.out.2⟩⟩
            have hl := HL.out
            rw [HX1.out.1, HX1.out.2, hd, HQ.out] at hl
            have h5 : ltOf cf d[c + m - 1 - h]! d[h]! = false := decide_eq_false (by omega)
            rcases Nat.lt_or_ge p h with h6 | h6
            · have h7 := HA.out p h (by omega) h6 (by omega)
              have h8 := HBB.out (c + m - 1 - h) (c + m - 1 - p) (by omega) (by omega) (by omega)
              exact hO.ntrans _ _ _ h8 (hO.ntrans _ _ _ h5 h7)
            · rw [show p = h by omega]; exact h5
      · as_aux_lemma =>
        obtain rfl : i = j := by omega
        have S3 : Aside (SWK enc k w0 blk off d wr) := by rw [← hdk]; exact S1
        obtain ⟨e, he⟩ : ∃ e, e = c + m - i := ⟨_, rfl⟩
        have ee : (c : Int) + (m : Int) - (i : Int) = (e : Int) := by omega
        have g1 : a ≤ i := by omega
        have g2 : i ≤ m := by omega
        have g3 : m ≤ e := by omega
        have g4 : e ≤ b := by omega
        have g5 : Aside (c = i + (e - m)) := by show _ = _; omega
        have HLT : Aside (∀ x y, i ≤ x → x < m → m ≤ y → y < e → ltOf cf d[y]! d[x]! = true) := fun x y x1 x2 y1 y2 => by
          have hi : i < r0 := by
            by_cases h : m ≤ c
            · have := p89.out.1 h; omega
            · have := p89.out.2 h; omega
          have h5 := W1.out.2 i (by omega) hi
          rw [show c + m - 1 - i = e - 1 by omega] at h5
          have h6 : ltOf cf d[x]! d[i]! = false := by
            rcases Nat.lt_or_ge i x with h | h
            · exact HA.out i x (by omega) h x2
            · rw [show x = i by omega]; exact hO.irrefl _
          have h7 : ltOf cf d[e - 1]! d[y]! = false := by
            rcases Nat.lt_or_ge y (e - 1) with h | h
            · exact HBB.out y (e - 1) (by omega) h (by omega)
            · rw [show y = e - 1 by omega]; exact hO.irrefl _
          cases hx : ltOf cf d[y]! d[x]! with
          | true => rfl
          | false =>
            have h9 := hO.ntrans _ _ _ (hO.ntrans _ _ _ h7 hx) h6
            rw [h5] at h9; cases h9
        have HGE : Aside (∀ x y, a ≤ x → x < i → e ≤ y → y < b → ltOf cf d[y]! d[x]! = false) := fun x y x1 x2 y1 y2 => by
          have hi : s0 < i := by
            by_cases h : m ≤ c
            · have := p89.out.1 h; omega
            · have := p89.out.2 h; omega
          have h5 := W1.out.1 (i - 1) (by omega) (by omega)
          rw [show c + m - 1 - (i - 1) = e by omega] at h5
          have h6 : ltOf cf d[i - 1]! d[x]! = false := by
            rcases Nat.lt_or_ge x (i - 1) with h | h
            · exact HA.out x (i - 1) x1 h (by omega)
            · rw [show x = i - 1 by omega]; exact hO.irrefl _
          have h7 : ltOf cf d[y]! d[e]! = false := by
            rcases Nat.lt_or_ge e y with h | h
            · exact HBB.out e y (by omega) h y2
            · rw [show y = e by omega]; exact hO.irrefl _
          exact hO.ntrans _ _ _ h7 (hO.ntrans _ _ _ h5 h6)
        clear S1 hdk W1 p89 h1 h2 h3 hlt hkx he p1 p2 p3 p4 p5 cc
        have CR2 : Aside (∀ w1, SWK enc k w0 blk off d w1 → i < m → m < e → e ≤ d.size → d.size < 4611686018427387904 → Calls P 140 #[.slice (some ⟨blk, off, none⟩) d.size cap, .int .i64 i, .int .i64 m, .int .i64 e, .func (.func g) #[] cb] w1 fun e_ w' => e_ = .returned (.tuple #[]) ∧ ∃ d', Rot i m e d d' ∧ SWK enc k w0 blk off d' w') := fun w1 h1 => rotate (P := P) (g := g) (cb := cb) L cap i m e d w1 R hs h1
        obtain ⟨bb, hbb⟩ : ∃ bb, bb = decide (i < m ∧ m < e) := ⟨_, rfl⟩
        have HBQ : Aside _ := hbb
        clear hbb
        go_upto_region 39 with (fail)
        go_cut [185] (fun v wc => v = .bool bb ∧ Aside (SWK enc k w0 blk off d wc))
        case first => as_aux_lemma =>
          by_cases hr1 : i < m
          · have hd1 : decide ((i : Int) < (m : Int)) = true := decide_eq_true (by omega)
            by_cases hr2 : m < e
            · have hd2 : decide ((m : Int) < (e : Int)) = true := decide_eq_true (by omega)
              go_wp2
              go_meet
              case rel => exact ⟨by rw [HBQ.out, decide_eq_true ⟨hr1, hr2⟩], S3⟩
            · have hd2 : decide ((m : Int) < (e : Int)) = false := decide_eq_false (by omega)
              go_wp2
              go_meet
              case rel => exact ⟨by rw [HBQ.out, decide_eq_false (fun h => hr2 h.2)], S3⟩
          · have hd1 : decide ((i : Int) < (m : Int)) = false := decide_eq_false (by omega)
            go_wp2
            go_meet
            case rel => exact ⟨by rw [HBQ.out, decide_eq_false (fun h => hr1 h.1)], S3⟩
        case rest =>
          clear S3
          obtain ⟨rfl, S3⟩ := hcut
          go_upto_if 185 with (fail)
          go_cut [] (fun wc => ∃ d1 : Array α, Aside (Rot i m e d d1) ∧ Aside (SWK enc k w0 blk off d1 wc))
          case first => as_aux_lemma =>
            cases bb with
            | true =>
              have hr : i < m ∧ m < e := of_decide_eq_true HBQ.out.symm
              go_wp2_with (go_at_fn 140; refine (CR2.out _ S3.out hr.1 hr.2 (by omega) hsz).mono ?_; rintro e_ w' ⟨rfl, d', s, S2⟩)
              go_meet
              case rel => exact ⟨d', s, S2⟩
            | false =>
              have hr : ¬ (i < m ∧ m < e) := of_decide_eq_false HBQ.out.symm
              go_wp2
              go_meet
              case rel => exact ⟨d, Rot.same d (by omega) g2 g3, S3⟩
          case rest =>
            clear S3 CR2 HBQ
            obtain ⟨d1, HR, S4⟩ := hcut
            have hs1 : d0.size = d1.size := hs.trans HR.out.size.symm
            have ML := m3_left g1 g2 g3 g4 g5.out HA.out HBB.out HR.out
            have IL := fun w1 (h : SWK enc k w0 blk off d1 w1) => ih a i c d1 w1 (by omega) hs1 h
            rw [← hs1, hs] at IL
            have IL2 : Aside _ := IL
            clear IL
            have ML : Aside _ := ML
            obtain ⟨bb, hbb⟩ : ∃ bb, bb = decide (a < i ∧ i < c) := ⟨_, rfl⟩
            have HBQ : Aside _ := hbb
            clear hbb
            go_upto_region 41 with (fail)
            go_cut [199] (fun v wc => v = .bool bb ∧ Aside (SWK enc k w0 blk off d1 wc))
            case first => as_aux_lemma =>
              by_cases hr1 : a < i
              · have hd1 : decide ((a : Int) < (i : Int)) = true := decide_eq_true (by omega)
                by_cases hr2 : i < c
                · have hd2 : decide ((i : Int) < (c : Int)) = true := decide_eq_true (by omega)
                  go_wp2
                  go_meet
                  case rel => exact ⟨by rw [HBQ.out, decide_eq_true ⟨hr1, hr2⟩], S4⟩
                · have hd2 : decide ((i : Int) < (c : Int)) = false := decide_eq_false (by omega)
                  go_wp2
                  go_meet
                  case rel => exact ⟨by rw [HBQ.out, decide_eq_false (fun h => hr2 h.2)], S4⟩
              · have hd1 : decide ((a : Int) < (i : Int)) = false := decide_eq_false (by omega)
                go_wp2
                go_meet
                case rel => exact ⟨by rw [HBQ.out, decide_eq_false (fun h => hr1 h.1)], S4⟩
            case rest =>
              clear S4
              obtain ⟨rfl, S4⟩ := hcut
              go_upto_if 199 with (fail)
              go_cut [] (fun wc => ∃ d2 : Array α, Aside (Srt (ltOf cf) a c d1 d2) ∧ Aside (SWK enc k w0 blk off d2 wc))
              case first => as_aux_lemma =>
                cases bb with
                | true =>
                  have hr : a < i ∧ i < c := of_decide_eq_true HBQ.out.symm
                  go_wp2_with (go_at_fn 131; refine (IL2.out _ S4.out hr.1 hr.2 (by omega) hsz ML.out.1 ML.out.2).mono ?_; rintro e_ w' ⟨rfl, d', s, S5⟩)
                  go_meet
                  case rel => exact ⟨d', s, S5⟩
                | false =>
                  have hr : ¬ (a < i ∧ i < c) := of_decide_eq_false HBQ.out.symm
                  go_wp2
                  go_meet
                  case rel => exact ⟨d1, Srt.same (by omega) g1 (by have := g5.out; omega) ML.out.1 ML.out.2, S4⟩
              case rest =>
                clear S4 IL2 HBQ
                obtain ⟨d2, H2, S5⟩ := hcut
                have hs2 : d0.size = d2.size := hs1.trans H2.out.st.size.symm
                have MR := m3_right g1 g2 g3 g4 g5.out HA.out HBB.out HR.out H2.out
                have IR := ih c e b d2 wc (by omega) hs2 S5.out
                rw [← hs2, hs] at IR
                have IR : Aside _ := IR
                have FIN : Aside (∀ d3, Srt (ltOf cf) c b d2 d3 → Srt (ltOf cf) a b d d3) := fun d3 h3 => merge3 hO g1 g2 g3 g4 g5.out HA.out HBB.out HLT.out HGE.out HR.out (fun _ _ => H2.out) (fun _ _ => h3)
                have MR : Aside _ := MR
                clear HLT HGE ML
                by_cases hr : c < e ∧ e < b
                · have hr1 := hr.1
                  have hr2 := hr.2
                  have hd1 : decide ((c : Int) < (e : Int)) = true := decide_eq_true (by omega)
                  have hd2 : decide ((e : Int) < (b : Int)) = true := decide_eq_true (by omega)
                  clear hr
                  go_wp2_with (go_at_fn 131; refine (IR.out hr1 hr2 (by omega) hsz MR.out.1 MR.out.2).mono ?_; rintro e_ w' ⟨rfl, d', s, S6⟩)
                  go_end0
                  exact ⟨rfl, d', FIN.out _ s, S6⟩
                · have hce : c ≤ e := by have := g5.out; omega
                  by_cases hr1 : c < e
                  · have hr2 : ¬ e < b := fun h => hr ⟨hr1, h⟩
                    have hd1 : decide ((c : Int) < (e : Int)) = true := decide_eq_true (by omega)
                    have hd2 : decide ((e : Int) < (b : Int)) = false := decide_eq_false (by omega)
                    clear hr
                    go_wp2
                    go_end0
                    exact ⟨rfl, d2, FIN.out _ (Srt.same (.inr (by omega)) hce g4 MR.out.1 MR.out.2), S5.out⟩
                  · have hd1 : decide ((c : Int) < (e : Int)) = false := decide_eq_false (by omega)
                    clear hr
                    go_wp2
                    go_end0
                    exact ⟨rfl, d2, FIN.out _ (Srt.same (.inl (by omega)) hce g4 MR.out.1 MR.out.2), S5.out⟩
end Go.Proofs.YtgbodlghggkmoaaDoor.Srt
