/- The library's stable sort at elements of k cells: what its functions do. -/
import Derived.Shelf.SlSortCmp.ReverseRangeK
import Derived.Test.YtgbodlghggkmoaaDoorSrtP
import Derived.Test.YtgbodlghggkmoaaDoorProg
namespace Go.Proofs.YtgbodlghggkmoaaDoor.Srt
set_option linter.unusedVariables false
set_option linter.unusedSimpArgs false
open Go Go.Shelf Go.RowKit Go.Lib Go.Sort Go.Proofs Go.Proofs.YtgbodlghggkmoaaDoor.SrtP

/-- What is used of the program, whatever else it is; an element has k cells. -/
structure SL (P : Program) (k : Nat) : Prop where
  mixed : P.follows .mixedOrders = true
  fS : P.funcs[143]? = some Tryd.f143
  fR : P.funcs[140]? = some Tryd.f140
  fM : P.funcs[131]? = some Tryd.f131
  fT : P.funcs[109]? = some Tryd.f109
  fF : P.funcs[73]? = some Tryd.f73
  fI : P.funcs[130]? = some Tryd.f130
  aE : ∀ w, (isAgg 28).run P w = .ok true w
  zE : ∀ w, (Go.sizeOf 28).run P w = .ok k w
  t0 : P.underlying 0 = some (TypeDesc.tuple #[])
  a0 : ∀ w, (isAgg 0).run P w = .ok false w
  z0 : ∀ w, (Go.sizeOf 0).run P w = .ok 1 w
  v0 : ∀ w, (zeroValue 0).run P w = .ok (Value.tuple #[]) w
  t3 : P.underlying 3 = some (TypeDesc.int IntKind.i64)
  a3 : ∀ w, (isAgg 3).run P w = .ok false w
  z3 : ∀ w, (Go.sizeOf 3).run P w = .ok 1 w
  v3 : ∀ w, (zeroValue 3).run P w = .ok (Value.int IntKind.i64 0) w
  t4 : P.underlying 4 = some (TypeDesc.bool)
  a4 : ∀ w, (isAgg 4).run P w = .ok false w
  z4 : ∀ w, (Go.sizeOf 4).run P w = .ok 1 w
  v4 : ∀ w, (zeroValue 4).run P w = .ok (Value.bool false) w
  t22 : P.underlying 22 = some (TypeDesc.slice 28)
  a22 : ∀ w, (isAgg 22).run P w = .ok false w
  z22 : ∀ w, (Go.sizeOf 22).run P w = .ok 1 w
  v22 : ∀ w, (zeroValue 22).run P w = .ok (Value.slice none 0 0) w
  t25 : P.underlying 82 = some (TypeDesc.func #[28, 28] #[3] false)
  a25 : ∀ w, (isAgg 82).run P w = .ok false w
  z25 : ∀ w, (Go.sizeOf 82).run P w = .ok 1 w
  v25 : ∀ w, (zeroValue 82).run P w = .ok (Value.nilFunc) w
  t43 : P.underlying 143 = some (TypeDesc.int IntKind.u64)
  a43 : ∀ w, (isAgg 143).run P w = .ok false w
  z43 : ∀ w, (Go.sizeOf 143).run P w = .ok 1 w
  v43 : ∀ w, (zeroValue 143).run P w = .ok (Value.int IntKind.u64 0) w

variable {P : Program} {k : Nat} {α : Type} [Inhabited α] {enc : α → List Value} {g : Nat} {cb : Array Value} {blk off : Nat} {d0 : Array α} {w0 : World}

/-- d' is d with n elements from a on and from b on exchanged. -/
structure Swapped (a b n : Nat) (d d' : Array α) : Prop where
  size : d'.size = d.size
  one : ∀ t, t < n → d'[a + t]! = d[b + t]! ∧ d'[b + t]! = d[a + t]!
  out : ∀ i, (i < a ∨ a + n ≤ i) → (i < b ∨ b + n ≤ i) → d'[i]! = d[i]!

set_option maxHeartbeats 4000000 in
set_option maxRecDepth 1000000 in
theorem swapRange (L : SL P k) (cap a b n : Nat) (d : Array α) (w : World)
    (R : RowK enc k w0 blk off d0) (hs : d0.size = d.size) (S : SWK enc k w0 blk off d w) (ha : a + n ≤ b) (hb : b + n ≤ d.size) (hsz : d.size < 4611686018427387904) :
    Calls P 143 #[.slice (some ⟨blk, off, none⟩) d.size cap, .int .i64 a, .int .i64 b, .int .i64 n, .func (.func g) #[] cb] w fun e w' => e = .returned (.tuple #[]) ∧ ∃ d', Swapped a b n d d' ∧ SWK enc k w0 blk off d' w' := by
  have mixed := L.mixed; have aE := L.aE; have zE := L.zE; have t0 := L.t0; have a0 := L.a0; have z0 := L.z0; have v0 := L.v0; have t3 := L.t3; have a3 := L.a3; have z3 := L.z3; have v3 := L.v3; have t4 := L.t4; have a4 := L.a4; have z4 := L.z4; have v4 := L.v4; have t22 := L.t22; have a22 := L.a22; have z22 := L.z22; have v22 := L.v22; have t25 := L.t25; have a25 := L.a25; have z25 := L.z25; have v25 := L.v25
  have FG := L.fS
  have S0 : Aside (SWK enc k w0 blk off d w) := S
  clear S
  go_enter FG, Tryd.ntmps143
  go_wp2
  go_loopg [10] n (fun kx s10 wr => ∃ (i : Nat) (dk : Array α), s10 = .int .i64 i ∧ i + kx = n ∧ dk.size = d.size ∧ Aside (SWK enc k w0 blk off dk wr) ∧ Aside (Swapped a b i d dk))
  case atStart => exact ⟨0, d, rfl, by omega, rfl, S0, ⟨rfl, fun t ht => by omega, fun _ _ _ => rfl⟩⟩
  case round =>
    clear S0
    obtain ⟨i, dk, rfl, hi, hds, S1, W1⟩ := hrel
    by_cases hlt : i < n
    · have hltz : (i : Int) < (n : Int) := by omega
      go_wp2_with fail
      have ea44 : ((a : Int) + (i : Int)).toNat = a + i := by omega
      have pa44 : (0 : Int) ≤ (a : Int) + (i : Int) := by omega
      have ba44 : (a : Int) + (i : Int) < (d.size : Int) := by omega
      have ra44 : IntKind.i64.wrap ((a : Int) + (i : Int)) = (a : Int) + (i : Int) := by rw [IntKind.wrap_i64]; omega
      have ec44 : ((b : Int) + (i : Int)).toNat = b + i := by omega
      have pc44 : (0 : Int) ≤ (b : Int) + (i : Int) := by omega
      have bc44 : (b : Int) + (i : Int) < (d.size : Int) := by omega
      have rc44 : IntKind.i64.wrap ((b : Int) + (i : Int)) = (b : Int) + (i : Int) := by rw [IntKind.wrap_i64]; omega
      have S2 : Aside (SWK enc k w0 blk off (swp dk (a + i) (b + i)) ((wr.drew.setCells blk (off + (a + i) * k) (enc dk[b + i]!)).setCells blk (off + (b + i) * k) (enc dk[a + i]!))) := S1.out.swapped R (a + i) (b + i) (by omega) (by omega)
      have l44a := S1.out.ld1 R (by omega) P (a + i) (by omega)
      have l44b := S1.out.ld1 R (by omega) P (b + i) (by omega)
      have s44a := S1.out.st1 R (by omega) P (a + i) (by omega) dk[b + i]!
      have s44b := S1.out.st2 R (by omega) P (a + i) (b + i) (by omega) (by omega) dk[b + i]! dk[a + i]!
      have n44a : (enc dk[a + i]!).length = k := R.hk _
      have n44b : (enc dk[b + i]!).length = k := R.hk _
      generalize enc dk[a + i]! = cI44 at S2 l44a s44b n44a
      generalize enc dk[b + i]! = cJ44 at S2 l44b s44a s44b n44b
      clear S1
      go_wp2_with fail
      go_big_region_o
      clear l44a l44b s44a s44b
      generalize (wr.drew.setCells blk (off + (a + i) * k) cJ44).setCells blk (off + (b + i) * k) cI44 = w2 at S2 ⊢
      go_wp2
      go_roundg (n - (i + 1))
      case measure => omega
      case rel =>
        refine ⟨i + 1, swp dk (a + i) (b + i), by go_num, by omega, by rw [size_swp]; exact hds, S2, ?_⟩
        have g := swp_get dk (show a + i < dk.size by omega) (show b + i < dk.size by omega)
        refine ⟨by rw [size_swp]; exact hds, fun t ht => ?_, fun j h1 h2 => ?_⟩
        · rcases Nat.lt_or_ge t i with h | h
          · have := W1.out.one t h
            rw [g, g, if_neg (by omega), if_neg (by omega), if_neg (by omega), if_neg (by omega)]
            exact this
          · obtain rfl : t = i := by omega
            rw [g, g, if_neg (by omega), if_pos rfl, if_pos rfl]
            exact ⟨W1.out.out _ (by omega) (by omega), W1.out.out _ (by omega) (by omega)⟩
        · rw [g, if_neg (by omega), if_neg (by omega)]
          exact W1.out.out j (by omega) (by omega)
    · obtain rfl : i = n := by omega
      go_wp2
      go_end0
      exact ⟨rfl, dk, W1.out, S1.out⟩

theorem rot_gt {i j m : Nat} {dk dk' d' : Array α} (hji : j < i) (him : i ≤ m) (s : Swapped (m - i) m j dk dk') (r : Rot (m - i + j) m (m + j) dk' d') : Rot (m - i) m (m + j) dk d' := by
  refine ⟨r.size.trans s.size, fun x hx => ?_, fun t ht => ?_, fun t ht => ?_⟩
  · rw [r.out x (by omega), s.out x (by omega) (by omega)]
  · rw [r.out _ (by omega)]; exact (s.one t (by omega)).1
  · rcases Nat.lt_or_ge t j with h | h
    · have := r.fst t (by omega)
      rw [show m - i + (m + j - m) + t = m - i + j + t by omega, this]
      exact (s.one t h).2
    · have := r.snd (t - j) (by omega)
      rw [show m - i + j + (m + j - m) + (t - j) = m - i + (m + j - m) + t by omega] at this
      rw [this, s.out _ (by omega) (by omega), show m - i + j + (t - j) = m - i + t by omega]
theorem rot_lt {i j m : Nat} {dk dk' d' : Array α} (hij : i < j) (him : i ≤ m) (s : Swapped (m - i) (m + j - i) i dk dk') (r : Rot (m - i) m (m + j - i) dk' d') : Rot (m - i) m (m + j) dk d' := by
  refine ⟨r.size.trans s.size, fun x hx => ?_, fun t ht => ?_, fun t ht => ?_⟩
  · rw [r.out x (by omega), s.out x (by omega) (by omega)]
  · rcases Nat.lt_or_ge t (j - i) with h | h
    · rw [r.fst t (by omega), s.out _ (by omega) (by omega)]
    · have := r.snd (t - (j - i)) (by omega)
      rw [show m - i + (m + j - i - m) + (t - (j - i)) = m - i + t by omega] at this
      rw [this, (s.one _ (by omega)).1, show m + j - i + (t - (j - i)) = m + t by omega]
  · rw [r.out _ (by omega), show m - i + (m + j - m) + t = m + j - i + t by omega]
    exact (s.one t (by omega)).2
theorem rot_eq {i m : Nat} {dk d' : Array α} (him : i ≤ m) (s : Swapped (m - i) m i dk d') : Rot (m - i) m (m + i) dk d' := by
  refine ⟨s.size, fun x hx => s.out x (by omega) (by omega), fun t ht => (s.one t (by omega)).1, fun t ht => ?_⟩
  rw [show m - i + (m + i - m) + t = m + t by omega]
  exact (s.one t (by omega)).2

set_option maxHeartbeats 4000000 in
set_option maxRecDepth 1000000 in
theorem rotate (L : SL P k) (cap a m b : Nat) (d : Array α) (w : World)
    (R : RowK enc k w0 blk off d0) (hs : d0.size = d.size) (S : SWK enc k w0 blk off d w) (ha : a < m) (hb : m < b) (hbs : b ≤ d.size) (hsz : d.size < 4611686018427387904) :
    Calls P 140 #[.slice (some ⟨blk, off, none⟩) d.size cap, .int .i64 a, .int .i64 m, .int .i64 b, .func (.func g) #[] cb] w fun e w' => e = .returned (.tuple #[]) ∧ ∃ d', Rot a m b d d' ∧ SWK enc k w0 blk off d' w' := by
  have mixed := L.mixed; have aE := L.aE; have zE := L.zE; have t0 := L.t0; have a0 := L.a0; have z0 := L.z0; have v0 := L.v0; have t3 := L.t3; have a3 := L.a3; have z3 := L.z3; have v3 := L.v3; have t4 := L.t4; have a4 := L.a4; have z4 := L.z4; have v4 := L.v4; have t22 := L.t22; have a22 := L.a22; have z22 := L.z22; have v22 := L.v22; have t25 := L.t25; have a25 := L.a25; have z25 := L.z25; have v25 := L.v25
  have FG := L.fR
  have eS : ∀ args w, (callFunc 143 args).run P w = .ok (.enter 143 args) w := enters_of L.fS (by kernel_rfl) rfl
  have S0 : Aside (SWK enc k w0 blk off d w) := S
  clear S
  go_enter FG, Tryd.ntmps140
  go_wp2
  go_loopg [10, 11] (b - a) (fun kx s10 s11 wr => ∃ (i j : Nat) (dk : Array α), s10 = .int .i64 i ∧ s11 = .int .i64 j ∧ 0 < i ∧ 0 < j ∧ a + i ≤ m ∧ m + j ≤ b ∧ i + j ≤ kx ∧ dk.size = d.size ∧ Aside (SWK enc k w0 blk off dk wr) ∧ Aside (∀ d', Rot (m - i) m (m + j) dk d' → Rot a m b d d'))
  case atStart =>
    refine ⟨m - a, b - m, d, by simp [Int.ofNat_sub (Nat.le_of_lt ha)]; try omega, by simp [Int.ofNat_sub (Nat.le_of_lt hb)]; try omega, by omega, by omega, by omega, by omega, by omega, rfl, S0, fun d' h => ?_⟩
    rw [show m - (m - a) = a by omega, show m + (b - m) = b by omega] at h
    exact h
  case round =>
    clear S0
    obtain ⟨i, j, dk, rfl, rfl, hi0, hj0, hi, hj, hkx, hds, S1, W1⟩ := hrel
    have CK := fun (a' b' n' : Nat) W => swapRange (g := g) (cb := cb) L cap a' b' n' dk W R (hs.trans hds.symm)
    rw [hds] at CK
    have CK : Aside _ := CK
    by_cases hne : i = j
    · subst hne
      have e1 : ((i : Int) != (i : Int)) = false := by simp
      have e2 : (m : Int) - (i : Int) = ((m - i : Nat) : Int) := by omega
      go_wp2_with fail
      refine (CK.out (m - i) m i _ S1.out (by omega) (by omega) hsz).mono ?_
      rintro e w' ⟨rfl, d', s, S2⟩
      go_wp2
      go_end0
      exact ⟨rfl, d', W1.out _ (rot_eq (by omega) s), S2⟩
    · have e1 : ((i : Int) != (j : Int)) = true := by simp; omega
      by_cases hgt : j < i
      · have e3 : (m : Int) - (i : Int) = ((m - i : Nat) : Int) := by omega
        go_wp2_with fail
        refine (CK.out (m - i) m j _ S1.out (by omega) (by omega) hsz).mono ?_
        rintro e w' ⟨rfl, d', s, S2⟩
        have S2 : Aside _ := S2
        have W2 : Aside (∀ d'', Rot (m - (i - j)) m (m + j) d' d'' → Rot a m b d d'') := fun d'' h => W1.out _ (rot_gt hgt (by omega) s (by rw [show m - i + j = m - (i - j) by omega]; exact h))
        have hs' := s.size
        clear s CK S1 W1
        go_wp2
        obtain ⟨k1, rfl⟩ : ∃ k1, gk = k1 + 1 := ⟨gk - 1, by omega⟩
        go_roundg k1
        case measure => omega
        case rel => exact ⟨i - j, j, d', by simp [Int.ofNat_sub (Nat.le_of_lt hgt)]; try omega, rfl, by omega, by omega, by omega, by omega, by omega, by omega, S2, W2⟩
      · have e3 : (m : Int) - (i : Int) = ((m - i : Nat) : Int) := by omega
        have e4 : (m : Int) + (j : Int) - (i : Int) = ((m + j - i : Nat) : Int) := by omega
        go_wp2_with fail
        refine (CK.out (m - i) (m + j - i) i _ S1.out (by omega) (by omega) hsz).mono ?_
        rintro e w' ⟨rfl, d', s, S2⟩
        have S2 : Aside _ := S2
        have W2 : Aside (∀ d'', Rot (m - i) m (m + (j - i)) d' d'' → Rot a m b d d'') := fun d'' h => W1.out _ (rot_lt (by omega) (by omega) s (by rw [show m + j - i = m + (j - i) by omega]; exact h))
        have hs' := s.size
        clear s CK S1 W1
        go_wp2
        obtain ⟨k1, rfl⟩ : ∃ k1, gk = k1 + 1 := ⟨gk - 1, by omega⟩
        go_roundg k1
        case measure => omega
        case rel => exact ⟨i, j - i, d', rfl, by simp [Int.ofNat_sub (show i ≤ j by omega)]; try omega, by omega, by omega, by omega, by omega, by omega, by omega, S2, W2⟩
end Go.Proofs.YtgbodlghggkmoaaDoor.Srt
