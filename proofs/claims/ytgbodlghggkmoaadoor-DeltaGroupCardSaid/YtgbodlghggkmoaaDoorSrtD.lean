/- The library's stable sort at elements of k cells: the whole. -/
import Derived.Test.YtgbodlghggkmoaaDoorSrtC
namespace Go.Proofs.YtgbodlghggkmoaaDoor.Srt
set_option linter.unusedVariables false
set_option linter.unusedSimpArgs false
open Go Go.Shelf Go.RowKit Go.Lib Go.Sort Go.Proofs Go.Proofs.YtgbodlghggkmoaaDoor.SrtP
variable {P : Program} {k : Nat} {α : Type} [Inhabited α] {enc : α → List Value} {g : Nat} {cb : Array Value} {blk off : Nat} {d0 : Array α} {w0 : World} {cf : α → α → Int}

theorem symMerge (L : SL P k) (cap : Nat) (eg : ∀ args w, (callFunc g args).run P w = .ok (.enter g args) w) (hcmp : CmpB P g cb enc k cf blk off d0.size w0) (hz : w0.drawn = 0) (hO : SWO (ltOf cf)) (R : RowK enc k w0 blk off d0) :
    ∀ (N a m b : Nat) (d : Array α) (w : World), b - a ≤ N → d0.size = d.size → SWK enc k w0 blk off d w → a < m → m < b → b ≤ d.size → d.size < 4611686018427387904 → SortedIn (ltOf cf) a m d → SortedIn (ltOf cf) m b d →
    Calls P 131 #[.slice (some ⟨blk, off, none⟩) d.size cap, .int .i64 a, .int .i64 m, .int .i64 b, .func (.func g) #[] cb] w fun e w' => e = .returned (.tuple #[]) ∧ ∃ d', Srt (ltOf cf) a b d d' ∧ SWK enc k w0 blk off d' w' := by
  intro N
  induction N with
  | zero => intro a m b d w h _ _ h1 h2; omega
  | succ N ih =>
    intro a m b d w hN hs S ha hb hbs hsz hA hB
    by_cases h1 : m = a + 1
    · exact symM1 L cap a m b d w eg hcmp hz hO R hs S ha hb hbs hsz hA hB h1
    · by_cases h2 : b = m + 1
      · exact symM2 L cap a m b d w eg hcmp hz hO R hs S ha hb hbs hsz hA hB h2 h1
      · exact symM3 L cap a m b d w eg hcmp hz hO R hs S ha hb hbs hsz hA hB h2 h1 (fun a' m' b' d' w' hlt q1 q2 q3 q4 q5 q6 q7 q8 => ih a' m' b' d' w' (by omega) q1 q2 q3 q4 q5 q6 q7 q8)

/-- Every block of s elements is sorted. -/
def Blk (lt : α → α → Bool) (s n : Nat) (d : Array α) : Prop := ∀ q, SortedIn lt (q * s) (min (q * s + s) n) d
structure Half (lt : α → α → Bool) (s n q : Nat) (d : Array α) : Prop where
  lo : ∀ q', q' < q → SortedIn lt (q' * (2 * s)) (min (q' * (2 * s) + 2 * s) n) d
  hi : ∀ q', 2 * q ≤ q' → SortedIn lt (q' * s) (min (q' * s + s) n) d
theorem Half.start {lt : α → α → Bool} {s n : Nat} {d : Array α} (h : Blk lt s n d) : Half lt s n 0 d := ⟨fun q' h => by omega, fun q' _ => h q'⟩
theorem sorted_out {lt : α → α → Bool} {a b : Nat} {d d' : Array α} (h : SortedIn lt a b d) (ho : ∀ i, a ≤ i → i < b → d'[i]! = d[i]!) : SortedIn lt a b d' := fun i j h1 h2 h3 => by
  rw [ho i h1 (by omega), ho j (by omega) h3]; exact h i j h1 h2 h3
theorem mul_lt {q' q s : Nat} (h : q' < q) : q' * s + s ≤ q * s := by
  have := Nat.mul_le_mul_right s (show q' + 1 ≤ q from h)
  rwa [Nat.add_mul, Nat.one_mul] at this
theorem Half.pair {lt : α → α → Bool} {s n q a : Nat} {d : Array α} (h : Half lt s n q d) (ha : a = q * (2 * s)) : SortedIn lt a (min (a + s) n) d ∧ SortedIn lt (a + s) (min (a + s + s) n) d := by
  have h1 := h.hi (2 * q) (Nat.le_refl _)
  have h2 := h.hi (2 * q + 1) (by omega)
  have e : 2 * q * s = a := by rw [ha, Nat.mul_comm 2 q, Nat.mul_assoc]
  rw [e] at h1
  rw [Nat.add_mul, Nat.one_mul, e] at h2
  exact ⟨h1, h2⟩
theorem Half.step {lt : α → α → Bool} {s n q a : Nat} {d d' : Array α} (h : Half lt s n q d) (ha : a = q * (2 * s)) (hn : a + 2 * s ≤ n) (r : Srt lt a (a + 2 * s) d d') : Half lt s n (q + 1) d' := by
  refine ⟨fun q' hq => ?_, fun q' hq => ?_⟩
  · rcases Nat.lt_or_ge q' q with h1 | h1
    · have := mul_lt (s := 2 * s) h1
      exact sorted_out (h.lo q' h1) (fun i i1 i2 => r.st.out i (by omega))
    · obtain rfl : q' = q := by omega
      rw [← ha]
      intro i j i1 i2 i3
      exact r.so i j i1 i2 (by omega)
  · have h2 : 2 * q + 2 ≤ q' := by omega
    have := Nat.mul_le_mul_right s h2
    have e : (2 * q + 2) * s = a + 2 * s := by rw [Nat.add_mul, ha, Nat.mul_comm 2 q, Nat.mul_assoc]
    exact sorted_out (h.hi q' (by omega)) (fun i i1 i2 => r.st.out i (by omega))
theorem Half.end_ {lt : α → α → Bool} {s n q a : Nat} {d d' : Array α} (h : Half lt s n q d) (ha : a = q * (2 * s)) (hn : n < a + 2 * s) (r : Srt lt a n d d') : Blk lt (2 * s) n d' := by
  intro q'
  rcases Nat.lt_or_ge q' q with h1 | h1
  · have := mul_lt (s := 2 * s) h1
    exact sorted_out (h.lo q' h1) (fun i i1 i2 => r.st.out i (by omega))
  · rcases Nat.lt_or_ge q q' with h2 | h2
    · have := mul_lt (s := 2 * s) h2
      exact fun i j i1 i2 i3 => by omega
    · obtain rfl : q' = q := by omega
      rw [← ha]
      intro i j i1 i2 i3
      exact r.so i j i1 i2 (by omega)
theorem Half.same {lt : α → α → Bool} {s n q a : Nat} {d : Array α} (h : Half lt s n q d) (ha : a = q * (2 * s)) (hn : n ≤ a + s) : Srt lt a n d d := by
  refine ⟨St.refl _ _ _, ?_⟩
  have := (h.pair ha).1
  intro i j i1 i2 i3
  exact this i j i1 i2 (by omega)
theorem Blk.all {lt : α → α → Bool} {s n : Nat} {d : Array α} (h : Blk lt s n d) (hs : n ≤ s) : SortedIn lt 0 n d := by
  have := h 0
  intro i j i1 i2 i3
  exact this i j (by omega) i2 (by omega)
/-- The first pass. -/
theorem first_step {lt : α → α → Bool} {q a b : Nat} {d d' : Array α} (h : ∀ q', q' < q → SortedIn lt (q' * 20) (q' * 20 + 20) d) (ha : a = q * 20) (hb : b = a + 20) (r : Srt lt a b d d') : ∀ q', q' < q + 1 → SortedIn lt (q' * 20) (q' * 20 + 20) d' := by
  intro q' hq
  rcases Nat.lt_or_ge q' q with h1 | h1
  · exact sorted_out (h q' h1) (fun i i1 i2 => r.st.out i (by omega))
  · obtain rfl : q' = q := by omega
    rw [← ha, ← hb]; exact r.so
theorem first_end {lt : α → α → Bool} {q a n : Nat} {d d' : Array α} (h : ∀ q', q' < q → SortedIn lt (q' * 20) (q' * 20 + 20) d) (ha : a = q * 20) (hn : n < a + 20) (r : Srt lt a n d d') : Blk lt 20 n d' := by
  intro q'
  rcases Nat.lt_or_ge q' q with h1 | h1
  · exact fun i j i1 i2 i3 => by
      rw [r.st.out i (by omega), r.st.out j (by omega)]; exact h q' h1 i j i1 i2 (by omega)
  · rcases Nat.lt_or_ge q q' with h2 | h2
    · exact fun i j i1 i2 i3 => by omega
    · obtain rfl : q' = q := by omega
      rw [← ha]
      exact fun i j i1 i2 i3 => r.so i j i1 i2 (by omega)

set_option maxHeartbeats 8000000 in
set_option maxRecDepth 1000000 in
theorem stable (L : SL P k) (cap : Nat) (d : Array α) (w : World) (eg : ∀ args w, (callFunc g args).run P w = .ok (.enter g args) w) (hcmp : CmpB P g cb enc k cf blk off d0.size w0) (hz : w0.drawn = 0) (hO : SWO (ltOf cf))
    (R : RowK enc k w0 blk off d0) (hs : d0.size = d.size) (S : SWK enc k w0 blk off d w) (hsz : d.size ≤ 1099511627776) :
    Calls P 109 #[.slice (some ⟨blk, off, none⟩) d.size cap, .int .i64 d.size, .func (.func g) #[] cb] w fun e w' => e = .returned (.tuple #[]) ∧ ∃ d', Srt (ltOf cf) 0 d.size d d' ∧ SWK enc k w0 blk off d' w' := by
  have CI : Aside (∀ (a b : Nat) (dk : Array α) (w : World), dk.size = d.size → SWK enc k w0 blk off dk w → a ≤ b → b ≤ d.size → Calls P 130 #[.slice (some ⟨blk, off, none⟩) d.size cap, .int .i64 a, .int .i64 b, .func (.func g) #[] cb] w fun e w' => e = .returned (.tuple #[]) ∧ ∃ d', Srt (ltOf cf) a b dk d' ∧ SWK enc k w0 blk off d' w') := by
    intro a b dk w h1 h2 h3 h4
    have h := insertion L cap a b dk w eg hcmp hz R (hs.trans h1.symm) h2 h3 (by omega) (by omega)
    rw [h1] at h
    exact h.mono fun e w' ⟨q1, q2⟩ => ⟨q1, _, srt_ins hO h3 (by omega), q2⟩
  have CM : Aside (∀ (a m b : Nat) (dk : Array α) (w : World), dk.size = d.size → SWK enc k w0 blk off dk w → a < m → m < b → b ≤ d.size → SortedIn (ltOf cf) a m dk → SortedIn (ltOf cf) m b dk → Calls P 131 #[.slice (some ⟨blk, off, none⟩) d.size cap, .int .i64 a, .int .i64 m, .int .i64 b, .func (.func g) #[] cb] w fun e w' => e = .returned (.tuple #[]) ∧ ∃ d', Srt (ltOf cf) a b dk d' ∧ SWK enc k w0 blk off d' w') := by
    intro a m b dk w h1 h2 h3 h4 h5 h6 h7
    have h := symMerge L cap eg hcmp hz hO R _ a m b dk w (Nat.le_refl _) (hs.trans h1.symm) h2 h3 h4 (by omega) (by omega) h6 h7
    rw [h1] at h
    exact h
  have FG := L.fT
  have eI : ∀ args w, (callFunc 130 args).run P w = .ok (.enter 130 args) w := enters_of L.fI (by kernel_rfl) rfl
  have eM : ∀ args w, (callFunc 131 args).run P w = .ok (.enter 131 args) w := enters_of L.fM (by kernel_rfl) rfl
  have mixed := L.mixed; have aE := L.aE; have zE := L.zE; have t0 := L.t0; have a0 := L.a0; have z0 := L.z0; have v0 := L.v0; have t3 := L.t3; have a3 := L.a3; have z3 := L.z3; have v3 := L.v3; have t4 := L.t4; have a4 := L.a4; have z4 := L.z4; have v4 := L.v4; have t22 := L.t22; have a22 := L.a22; have z22 := L.z22; have v22 := L.v22; have t25 := L.t25; have a25 := L.a25; have z25 := L.z25; have v25 := L.v25; have t43 := L.t43; have a43 := L.a43; have z43 := L.z43; have v43 := L.v43
  have S0 : Aside (SWK enc k w0 blk off d w) := S
  have HO : Aside (SWO (ltOf cf)) := hO
  clear S hcmp hO R eg hz
  go_enter FG, Tryd.ntmps109
  go_wp2
  go_loopg [7, 8] d.size (fun kx v7 v8 wr => ∃ (a b q : Nat) (dk : Array α), v7 = .int .i64 a ∧ v8 = .int .i64 b ∧ b ≤ a + 20 ∧ a + 20 ≤ b ∧ a ≤ d.size ∧ d.size - a ≤ kx ∧ Aside (dk.size = d.size ∧ a = q * 20) ∧ Aside (SWK enc k w0 blk off dk wr) ∧ Aside (St (ltOf cf) 0 d.size d dk) ∧
    Aside (∀ q', q' < q → SortedIn (ltOf cf) (q' * 20) (q' * 20 + 20) dk))
  case atStart => exact ⟨0, 20, 0, d, rfl, rfl, by omega, by omega, by omega, by omega, ⟨rfl, rfl⟩, S0, St.refl _ _ _, fun q' h => by omega⟩
  case round =>
    clear S0
    obtain ⟨a, b, q, dk, rfl, rfl, h1, h2, h3, hkx, HD, S1, W1, W2⟩ := hrel
    by_cases hlt : b ≤ d.size
    · have hltz : (b : Int) ≤ (d.size : Int) := by omega
      go_wp2_with (go_at_fn 130; refine (CI.out a b dk _ HD.out.1 S1.out (by omega) hlt).mono ?_; rintro e_ w' ⟨rfl, d', s, S2⟩)
      obtain ⟨k1, rfl⟩ : ∃ k1, gk = k1 + 1 := ⟨gk - 1, by omega⟩
      go_roundg k1
      case measure => omega
      case rel => exact ⟨b, b + 20, q + 1, d', rfl, by go_num, by omega, by omega, hlt, by omega, ⟨s.st.size.trans HD.out.1, by have := HD.out.2; omega⟩, S2, W1.out.trans (s.st.mono (by omega) (by omega) hlt), first_step W2.out HD.out.2 (by omega) s⟩
    · have hltz : ¬ (b : Int) ≤ (d.size : Int) := by omega
      go_wp2_with (go_at_fn 130; refine (CI.out a d.size dk _ HD.out.1 S1.out h3 (Nat.le_refl _)).mono ?_; rintro e_ w' ⟨rfl, d', s, S2⟩; have S2 : Aside _ := S2; have W3 : Aside (Blk (ltOf cf) 20 d.size d') := first_end W2.out HD.out.2 (by omega) s; have W4 : Aside (St (ltOf cf) 0 d.size d d') := W1.out.trans (s.st.mono (by omega) h3 (Nat.le_refl _)); have HD2 : Aside (d'.size = d.size) := s.st.size.trans HD.out.1; clear s S1 W1 W2 HD)
      go_loopg [6] d.size (fun kx v6 wr => ∃ (s : Nat) (dk : Array α), v6 = .int .i64 s ∧ 0 < s ∧ s ≤ 2 * d.size + 20 ∧ d.size - s ≤ kx ∧ Aside (dk.size = d.size) ∧ Aside (SWK enc k w0 blk off dk wr) ∧ Aside (St (ltOf cf) 0 d.size d dk) ∧ Aside (Blk (ltOf cf) s d.size dk))
      case atStart => exact ⟨20, d', rfl, by omega, by omega, by omega, HD2, S2, W4, W3⟩
      case round =>
        clear S2 W3 W4 HD2
        obtain ⟨s, dk, rfl, s1, s2, hkx, HD, S1, W1, W2⟩ := hrel
        by_cases hlt : s < d.size
        · have hltz : (s : Int) < (d.size : Int) := by omega
          have esz : (d.size : Int) ≤ 1099511627776 := by omega
          go_wp2
          go_loopg [7, 8] d.size (fun kx v7 v8 wr => ∃ (a b q : Nat) (dk : Array α), v7 = .int .i64 a ∧ v8 = .int .i64 b ∧ b ≤ a + 2 * s ∧ a + 2 * s ≤ b ∧ a ≤ d.size ∧ d.size - a ≤ kx ∧ Aside (dk.size = d.size ∧ a = q * (2 * s)) ∧ Aside (SWK enc k w0 blk off dk wr) ∧ Aside (St (ltOf cf) 0 d.size d dk) ∧ Aside (Half (ltOf cf) s d.size q dk))
          case atStart => exact ⟨0, 2 * s, 0, dk, rfl, by go_num, by omega, by omega, by omega, by omega, ⟨HD.out, by omega⟩, S1, W1, Half.start W2.out⟩
          case round =>
            clear S1 W1 W2 HD
            obtain ⟨a, b, q, dk, rfl, rfl, h1, h2, h3, hky, HD, S1, W1, W2⟩ := hrel
            by_cases hb : b ≤ d.size
            · have hbz : (b : Int) ≤ (d.size : Int) := by omega
              obtain ⟨m, hm0⟩ : ∃ m, m = a + s := ⟨_, rfl⟩
              have eas : (a : Int) + (s : Int) = (m : Int) := by omega
              have m1 : a < m := by omega
              have m2 : m + s ≤ a + 2 * s := by omega
              have m3 : a + s ≤ m := by omega
              have m4 : m ≤ a + s := by omega
              have hp := W2.out.pair HD.out.2
              rw [← hm0, show min m d.size = m by omega, show min (m + s) d.size = b by omega] at hp
              have HP : Aside _ := hp
              clear hp hm0
              go_wp2_with (go_at_fn 131; refine (CM.out a m b dk _ HD.out.1 S1.out (by omega) (by omega) hb HP.out.1 HP.out.2).mono ?_; rintro e_ w' ⟨rfl, d', r, S2⟩)
              obtain ⟨k1, rfl⟩ : ∃ k1, gk = k1 + 1 := ⟨gk - 1, by omega⟩
              go_roundg k1
              case measure => omega
              case rel =>
                refine ⟨b, b + 2 * s, q + 1, d', rfl, by go_num, by omega, by omega, hb, by omega, ⟨r.st.size.trans HD.out.1, ?_⟩, S2, W1.out.trans (r.st.mono (by omega) (by omega) hb), W2.out.step HD.out.2 (by omega) (by rw [show a + 2 * s = b by omega]; exact r)⟩
                have := HD.out.2
                rw [Nat.add_mul, Nat.one_mul]; omega
            · have hbz : ¬ (b : Int) ≤ (d.size : Int) := by omega
              obtain ⟨m, hm0⟩ : ∃ m, m = a + s := ⟨_, rfl⟩
              have eas : (a : Int) + (s : Int) = (m : Int) := by omega
              have m1 : a < m := by omega
              have m2 : m + s ≤ a + 2 * s := by omega
              have m3 : a + s ≤ m := by omega
              have m4 : m ≤ a + s := by omega
              by_cases hm : m < d.size
              · have hmz : (m : Int) < (d.size : Int) := by omega
                have hp := W2.out.pair HD.out.2
                rw [← hm0, show min m d.size = m by omega, show min (m + s) d.size = d.size by omega] at hp
                have HP : Aside _ := hp
                clear hp hm0
                go_wp2_with (go_at_fn 131; refine (CM.out a m d.size dk _ HD.out.1 S1.out (by omega) hm (Nat.le_refl _) HP.out.1 HP.out.2).mono ?_; rintro e_ w' ⟨rfl, d', r, S2⟩)
                go_roundg (d.size - s * 2)
                case measure => omega
                case rel => exact ⟨s * 2, d', by go_num, by omega, by omega, by omega, (by show _ = _; exact r.st.size.trans HD.out.1), S2, W1.out.trans (r.st.mono (by omega) h3 (Nat.le_refl _)), (by rw [Nat.mul_comm]; exact W2.out.end_ HD.out.2 (by omega) r)⟩
              · have hmz : ¬ (m : Int) < (d.size : Int) := by omega
                clear hm0
                go_wp2
                go_roundg (d.size - s * 2)
                case measure => omega
                case rel => exact ⟨s * 2, dk, by go_num, by omega, by omega, by omega, HD.out.1, S1, W1, (by rw [Nat.mul_comm]; exact W2.out.end_ HD.out.2 (by omega) (W2.out.same HD.out.2 (by omega)))⟩
        · have hltz : ¬ (s : Int) < (d.size : Int) := by omega
          go_wp2
          go_end0
          exact ⟨rfl, dk, ⟨W1.out, W2.out.all (by omega)⟩, S1.out⟩
end Go.Proofs.YtgbodlghggkmoaaDoor.Srt
