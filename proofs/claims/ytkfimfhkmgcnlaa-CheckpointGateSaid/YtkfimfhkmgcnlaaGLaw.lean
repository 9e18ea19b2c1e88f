/- CheckpointGate: the walk. -/
import Derived.Test.YtkfimfhkmgcnlaaRefB
import Derived.Test.YtkfimfhkmgcnlaaGateC
import Derived.Test.YtkfimfhkmgcnlaaOnceW
import Derived.Deep.RegionHeld3
namespace Go.Proofs.Ytkfimfhkmgcnlaa.GLaw
set_option linter.unusedVariables false
set_option linter.unusedSimpArgs false
open Go Go.RowKit Go.Proofs.Ytkfimfhkmgcnlaa.B Go.Proofs.Ytkfimfhkmgcnlaa.Gate Go.Proofs.Ytkfimfhkmgcnlaa.RefG

/-- A call of a gate, as it stands in memory. -/
structure ActV where
  dO : Int
  i : Int
  kind : Int
  mq : Int
  nd : Int
  ni : Int
  bk : Int
  mn : Int
  A : Option Addr
  n : Nat
  c : Nat
def ActV.cells (x : ActV) : List Value := [.int .i64 x.dO, .int .i64 x.i, .int .i64 x.kind, .int .i64 x.mq, .int .i64 x.nd, .int .i64 x.ni, .int .i64 x.bk, .int .i64 x.mn, .slice x.A x.n x.c]
instance : Inhabited ActV := ⟨⟨0, 0, 0, 0, 0, 0, 0, 0, none, 0, 0⟩⟩
def ReadsAct (w : World) (A : Option Addr) (xs : List ActV) : Prop := 0 < xs.length → ∃ ad : Addr, A = some ad ∧ ∀ j, j < xs.length → ∀ t v, (xs.getD j default).cells[t]? = some v → w.cell? (ad.add (j * 9 + t)) = some v
theorem ReadsAct.kept {w w1 : World} {A : Option Addr} {xs : List ActV} (h : ReadsAct w A xs) (hc : Chg (fun _ => False) w w1) : ReadsAct w1 A xs := by
  intro hp
  obtain ⟨ad, e, h⟩ := h hp
  refine ⟨ad, e, fun j hj t v ht => ?_⟩
  have h1 := h j hj t v ht
  have := hc.block _ (World.block_lt_of_cell? w _ h1) (fun h => h)
  simpa [World.cell?, this] using h1
theorem add_field (ad : Addr) (m j : Nat) (hj : 0 < j) : ad.add (m + j) = ⟨(ad.add m).block, (ad.add m).off + j, none⟩ := by
  unfold Addr.add
  rw [if_neg (by omega)]
  split
  · rename_i h; simp [h]
  · simp [Nat.add_assoc]

/-- Both gates. -/
structure Both (w0 w : World) (g b h hb n : Nat) (num kind : Int) (L : List Int) : Prop where
  G : GateAt w g b n num kind L
  R : RefAt w h hb n num kind L
  W : Well n L
  hn : 0 ≤ num
  hk : kind = 0 ∨ kind = 1
  C : Chg (fun _ => False) w0 w
  l1 : w0.heap.size ≤ g
  l2 : w0.heap.size ≤ b
  l3 : w0.heap.size ≤ h
  l4 : w0.heap.size ≤ hb

theorem Both.free {w0 w w' : World} {g b h hb n : Nat} {num kind : Int} {L : List Int} (B : Both w0 w g b h hb n num kind L) (hc : Chg (fun _ => False) w w') : Both w0 w' g b h hb n num kind L :=
  ⟨B.G.kept hc (fun h => h) (fun h => h), B.R.kept hc (fun h => h) (fun h => h), B.W, B.hn, B.hk, B.C.trans hc, B.l1, B.l2, B.l3, B.l4⟩
def ansV (n num kind0 : Int) (L : List Int) (i mk mn kind : Int) : Int := if arrC n num kind0 L i mk mn kind = 5 then barA n num (addL L i) kind else arrC n num kind0 L i mk mn kind
def numV (n num kind0 : Int) (L : List Int) (i mk mn kind : Int) : Int := if arrC n num kind0 L i mk mn kind = 5 then barN n (addL L i) mn else num
def kindV (n num kind0 : Int) (L : List Int) (i mk mn kind : Int) : Int := if arrC n num kind0 L i mk mn kind = 5 then kind else kind0
def LV (n num kind0 : Int) (L : List Int) (i mk mn kind : Int) : List Int := if arrC n num kind0 L i mk mn kind = 5 then barL n (addL L i) else L
def PostG (w : World) (g b : Nat) (n num kind0 : Int) (L : List Int) (i mk mn kind : Int) (e : Ending) (w' : World) : Prop :=
  ∃ b', e = .returned (.int .i64 (ansV n num kind0 L i mk mn kind)) ∧ GateAt w' g b' n (numV n num kind0 L i mk mn kind) (kindV n num kind0 L i mk mn kind) (LV n num kind0 L i mk mn kind) ∧ Chg (fun k => k = g ∨ k = b) w w' ∧ (b' = b ∨ w.heap.size ≤ b')
def PostR (w : World) (g b n : Nat) (num kind0 : Int) (L : List Int) (i mk mn kind : Int) (e : Ending) (w' : World) : Prop :=
  ∃ b', e = .returned (.int .i64 (ansV n num kind0 L i mk mn kind)) ∧ RefAt w' g b' n (numV n num kind0 L i mk mn kind) (kindV n num kind0 L i mk mn kind) (LV n num kind0 L i mk mn kind) ∧ Chg (fun k => k = g ∨ k = b) w w' ∧ (b' = b ∨ w.heap.size ≤ b')
theorem arriveG {w : World} {g b : Nat} {n num kind0 : Int} {L : List Int} (h : GateAt w g b n num kind0 L) (i mk nd ni bk mn kind : Int) (A : Option Addr) (dn dc : Nat) :
    Calls Try.prog 13 #[.pointer (some ⟨g, 0, none⟩), .int .i64 i, .agg #[.int .i64 mk, .int .i64 nd, .int .i64 ni, .int .i64 bk, .int .i64 mn, .slice A dn dc], .int .i64 kind] w (PostG w g b n num kind0 L i mk mn kind) := by
  refine (Gate.arrive h i mk nd ni bk mn kind A dn dc).mono ?_
  unfold PostG ansV numV kindV LV
  rintro e w' (⟨h1, h2, h3, h4⟩ | ⟨h1, b', h2, h3, h4, h5⟩)
  · simp only [if_neg h1]; exact ⟨b, h2, h3, h4, .inl rfl⟩
  · simp only [if_pos h1]; exact ⟨b', h2, h3, h4, h5⟩
theorem arriveR {w : World} {g b n : Nat} {num kind0 : Int} {L : List Int} (h : RefAt w g b n num kind0 L) (hn6 : n ≤ 6) (hW : Well n L) (hnum : 0 ≤ num) (hk0 : kind0 = 0 ∨ kind0 = 1) (i mk nd ni bk mn kind : Int) (A : Option Addr) (dn dc : Nat) :
    Calls Try.prog 20 #[.pointer (some ⟨g, 0, none⟩), .int .i64 i, .agg #[.int .i64 mk, .int .i64 nd, .int .i64 ni, .int .i64 bk, .int .i64 mn, .slice A dn dc], .int .i64 kind] w (PostR w g b n num kind0 L i mk mn kind) := by
  refine (RefG.arrive h hn6 hW hnum hk0 i mk nd ni bk mn kind A dn dc).mono ?_
  unfold PostR ansV numV kindV LV
  rintro e w' (⟨h1, h2, h3, h4⟩ | ⟨h1, b', h2, h3, h4, h5⟩)
  · simp only [if_neg h1]; exact ⟨b, h2, h3, h4, .inl rfl⟩
  · simp only [if_pos h1]; exact ⟨b', h2, h3, h4, h5⟩
theorem stepV {n : Nat} {num kind0 : Int} {L : List Int} (hW : Well n L) (hnum : 0 ≤ num) (hk0 : kind0 = 0 ∨ kind0 = 1) (i mk mn kind : Int) :
    Well n (LV n num kind0 L i mk mn kind) ∧ 0 ≤ numV n num kind0 L i mk mn kind ∧ (kindV n num kind0 L i mk mn kind = 0 ∨ kindV n num kind0 L i mk mn kind = 1) := by
  unfold LV numV kindV
  by_cases h : arrC n num kind0 L i mk mn kind = 5
  · simp only [if_pos h]
    unfold arrC at h
    by_cases hb : i < 0 ∨ (n : Int) ≤ i ∨ kind ≠ 0 ∧ kind ≠ 1
    · rw [if_pos hb] at h; omega
    · rw [if_neg hb] at h
      have h1 : 0 ≤ i := by omega
      obtain ⟨j, rfl⟩ := Int.eq_ofNat_of_zero_le h1
      refine ⟨(hW.add (by omega)).bar, ?_, by omega⟩
      unfold barN
      split at h
      · omega
      · split at h
        · omega
        · split at h
          · omega
          · split at h
            · omega
            · split <;> omega
  · simp only [if_neg h]; exact ⟨hW, hnum, hk0⟩
/-- x in its block. -/
theorem x_cells {w : World} {gx : Nat} {x : ActV} (h : w.heap[gx]? = some (.cells x.cells.toArray 38 (0, 0))) :
    w.cell? ⟨gx, 1, none⟩ = some (.int .i64 x.i) ∧ w.cell? ⟨gx, 2, none⟩ = some (.int .i64 x.kind) ∧ w.cell? ⟨gx, 3, none⟩ = some (.int .i64 x.mq) ∧ w.cell? ⟨gx, 4, none⟩ = some (.int .i64 x.nd) ∧ w.cell? ⟨gx, 5, none⟩ = some (.int .i64 x.ni) ∧
    w.cell? ⟨gx, 6, none⟩ = some (.int .i64 x.bk) ∧ w.cell? ⟨gx, 7, none⟩ = some (.int .i64 x.mn) ∧ w.cell? ⟨gx, 8, none⟩ = some (.slice x.A x.n x.c) := by
  refine ⟨?_, ?_, ?_, ?_, ?_, ?_, ?_, ?_⟩ <;> rw [blk_cell h] <;> rfl
theorem ne_of {w : World} {g b h hb n : Nat} {nn num kind num' kind' : Int} {L L' : List Int} (G : GateAt w g b nn num kind L) (R : RefAt w h hb n num' kind' L') : g ≠ h ∧ g ≠ hb ∧ b ≠ h ∧ b ≠ hb := by
  obtain ⟨es, c, hm, _⟩ := G.2
  exact ⟨ne_blk G.1 R.1 (by simp), ne_blk G.1 R.2 (by simp), ne_blk hm R.1 (by simp), ne_blk hm R.2 (by simp)⟩
/-- The program's gate has done something. -/
theorem Both.one {w0 w w1 : World} {g b h hb n b' : Nat} {num kind num' kind' : Int} {L L' : List Int} (B : Both w0 w g b h hb n num kind L) (G' : GateAt w1 g b' n num' kind' L') (C1 : Chg (fun k => k = g ∨ k = b) w w1) (hb' : b' = b ∨ w.heap.size ≤ b') :
    RefAt w1 h hb n num kind L ∧ Chg (fun _ => False) w0 w1 ∧ w0.heap.size ≤ b' := by
  obtain ⟨n1, n2, n3, n4⟩ := ne_of B.G B.R
  have := B.C.size; have := B.l1; have := B.l2
  exact ⟨B.R.kept C1 (by rintro (e | e); exact n1 e.symm; exact n3 e.symm) (by rintro (e | e); exact n2 e.symm; exact n4 e.symm), B.C.trans' C1 (by rintro i (e | e) <;> exact .inr (by omega)), by omega⟩
/-- Both have. -/
theorem Both.two {w0 w w1 w2 : World} {g b h hb n b' hb2 : Nat} {num kind num' kind' : Int} {L L' : List Int} (B : Both w0 w g b h hb n num kind L) (G' : GateAt w1 g b' n num' kind' L') (C1 : Chg (fun k => k = g ∨ k = b) w w1) (hb' : b' = b ∨ w.heap.size ≤ b')
    (R' : RefAt w2 h hb2 n num' kind' L') (C2 : Chg (fun k => k = h ∨ k = hb) w1 w2) (hb2' : hb2 = hb ∨ w1.heap.size ≤ hb2) (hW : Well n L') (hn : 0 ≤ num') (hk : kind' = 0 ∨ kind' = 1) : Both w0 w2 g b' h hb2 n num' kind' L' := by
  obtain ⟨R1, C, l2⟩ := B.one G' C1 hb'
  obtain ⟨n1, n2, n3, n4⟩ := ne_of G' R1
  have := C.size; have := B.l3; have := B.l4
  exact ⟨G'.kept C2 (by rintro (e | e); exact n1 e; exact n2 e) (by rintro (e | e); exact n3 e; exact n4 e), R', hW, hn, hk, C.trans' C2 (by rintro i (e | e) <;> exact .inr (by omega)), B.l1, l2, B.l3, by omega⟩

set_option maxHeartbeats 4000000 in
set_option maxRecDepth 100000 in
theorem good (n : Int) (l : List ActV) (A : Option Addr) (c : Nat) (w : World) (hn6 : n ≤ 6) (hl : l.length ≤ 60) (rl : ReadsAct w A l) :
    Calls Try.prog 4 #[.int .i64 n, .slice A l.length c] w fun e w' => e = .returned (.bool true) ∧ Chg (fun _ => False) w w' := by
  have RL := Lib.hid rl
  clear rl
  go_enter Try.func4, Try.ntmps4
  go_wp2_with fail
  refine (OnceW.small _).mono ?_
  rintro e w1 ⟨rfl, C1⟩
  have D1 := Lib.hid C1; clear C1
  go_wp2_with fail
  refine (Gate.new _ _).mono ?_
  rintro e w2 ⟨g, b, rfl, G2, C2, hg, hb⟩
  have K2 := Lib.hid G2; have D2 := Lib.hid C2; clear G2 C2
  go_wp2_with fail
  refine (RefG.new _ hn6 _).mono ?_
  rintro e w3 ⟨h, hh, rfl, R3, C3, l3, l4⟩
  obtain ⟨m, hm⟩ : ∃ m, m = (max 0 n).toNat := ⟨_, rfl⟩
  have hm6 : m ≤ 6 := by omega
  have hT : Both w w3 g b h hh m 0 0 [] := by
    have := D1.out.size; have := D2.out.size
    rw [← hm] at R3
    have hG := K2.out.kept C3 (fun h => h) (fun h => h)
    rw [show max n 0 = (m : Int) by omega] at hG
    exact ⟨hG, R3, ⟨by simp, by simp⟩, by omega, .inl rfl, (D1.out.trans D2.out).trans C3, by omega, by omega, by omega, by omega⟩
  have T := Lib.hid hT
  clear hT K2 D2 D1 hg hb R3 C3 l3 l4 hm
  go_wp2_with fail
  go_loopg [4, 6, 8] l.length (fun kq v4 v6 v8 wr => ∃ (k : Nat) (g b hb : Nat) (num kind : Int) (L : List Int), v8 = .int .i64 k ∧ k + kq = l.length ∧ v6 = .pointer (some ⟨g, 0, none⟩) ∧ Hid (Both w wr g b h hb m num kind L))
  case atStart => exact ⟨0, g, b, hh, 0, 0, [], rfl, by omega, rfl, T.out⟩
  case round =>
    clear T
    obtain ⟨k, g, b, hb, num, kind, L, rfl, hkq, rfl, hB⟩ := hrel
    by_cases hk : k < l.length
    · obtain ⟨ad, rfl, hx⟩ := (RL.out.kept hB.out.C) (by omega)
      have hx := hx k hk
      generalize l.getD k default = x at hx
      have x0 := hx 0 _ rfl
      have x1 := hx 1 _ rfl; rw [add_field _ _ 1 (by omega)] at x1
      have x2 := hx 2 _ rfl; rw [add_field _ _ 2 (by omega)] at x2
      have x3 := hx 3 _ rfl; rw [add_field _ _ 3 (by omega)] at x3
      have x4 := hx 4 _ rfl; rw [add_field _ _ 4 (by omega)] at x4
      have x5 := hx 5 _ rfl; rw [add_field _ _ 5 (by omega)] at x5
      have x6 := hx 6 _ rfl; rw [add_field _ _ 6 (by omega)] at x6
      have x7 := hx 7 _ rfl; rw [add_field _ _ 7 (by omega)] at x7
      have x8 := hx 8 _ rfl; rw [add_field _ _ 8 (by omega)] at x8
      clear hx
      rw [Nat.add_zero] at x0
      go_upto_block 2 with (fail)
      generalize hd : (bits BinOp.and IntKind.i64 x.dO 7) = d
      have hBW := Lib.hid (hB.out.free ((Chg.refl (fun _ => False) wr).alloc (.cells x.cells.toArray 38)))
      have hgx := blk_new wr (.cells x.cells.toArray 38)
      have hlx : wr.heap.size < (wr.alloc (.cells x.cells.toArray 38)).heap.size := by simp
      have hne : Hid (wr.heap.size ≠ g ∧ wr.heap.size ≠ b ∧ wr.heap.size ≠ h ∧ wr.heap.size ≠ hb) := by
        have := hB.out.G.lt1; have := hB.out.G.lt2; have := hB.out.R.lt1; have := hB.out.R.lt2
        exact ⟨by omega, by omega, by omega, by omega⟩
      clear x0 x1 x2 x3 x4 x5 x6 x7 x8 hd hB
      unfold ActV.cells at hBW hlx
      have hgx2 := hgx
      unfold ActV.cells at hgx
      rw [show x.cells.toArray = #[.int .i64 x.dO, .int .i64 x.i, .int .i64 x.kind, .int .i64 x.mq, .int .i64 x.nd, .int .i64 x.ni, .int .i64 x.bk, .int .i64 x.mn, .slice x.A x.n x.c] from rfl] at hgx2
      generalize wr.alloc _ = W at hBW hgx2 hlx ⊢
      generalize wr.heap.size = gx at hgx2 hlx hne ⊢
      have HX : Hid (W.heap[gx]? = some (.cells x.cells.toArray 38 (0, 0))) := hgx2
      clear hgx hgx2
      go_cut [6] (fun v6 wc => ∃ (g b hb : Nat) (num kind : Int) (L : List Int), v6 = .pointer (some ⟨g, 0, none⟩) ∧ Hid (Both w wc g b h hb m num kind L))
      case first =>
        by_cases h6 : d = 6
        · have e6 : (d == 6) = true := by simpa using h6
          clear h6
          go_wp2_with fail
          refine (Gate.cancel hBW.out.G).mono ?_
          rintro e w4 ⟨b4, rfl, G4, C4, hb4⟩
          have Q4 := Lib.hid (And.intro G4 (And.intro (C4.mono (S' := fun k => k = g ∨ k = b) (fun k hk => .inl hk)) hb4))
          have R4 := Lib.hid (hBW.out.one G4 (C4.mono (fun k hk => .inl hk)) (.inr hb4))
          clear G4 C4 hb4
          go_wp2_with fail
          refine (RefG.cancel R4.out.1 hm6).mono ?_
          rintro e w5 ⟨b5, rfl, G5, C5, hb5⟩
          have B5 := Lib.hid (hBW.out.two Q4.out.1 Q4.out.2.1 (.inr Q4.out.2.2) G5 (C5.mono (fun k hk => .inl hk)) (.inr hb5) ⟨by simp, by simp⟩ (by omega) hBW.out.hk)
          clear G5 C5 hb5
          go_wp2_with fail
          go_meet
          case rel => exact ⟨g, b4, b5, 0, kind, [], rfl, B5.out⟩
        · have e6 : (d == 6) = false := by simpa using h6
          by_cases h7 : d = 7
          · have e7 : (d == 7) = true := by simpa using h7
            clear h6 h7
            go_wp2_with fail
            refine (Gate.copy hBW.out.G).mono ?_
            rintro e w4 ⟨g4, b4, L4, rfl, G4, hm4, C4, hg4, hb4⟩
            have B4 : Hid (Both w w4 g4 b4 h hb m num kind L4) := by
              obtain ⟨a1, a2, a3, a4, a5, a6, a7, a8, a9, a10⟩ := hBW.out
              have hcm : cm m L4 = cm m L := by unfold cm; simp only [hm4]
              have hnd : L4.Nodup := by obtain ⟨es, c, _, _, hL, _⟩ := G4.2; exact hL
              have hR := a2.kept C4 (fun h => h) (fun h => h)
              have := a6.size
              refine ⟨G4, ⟨hR.1, by rw [hcm]; exact hR.2⟩, ⟨hnd, fun y hy => a3.2 y ((hm4 y).1 hy)⟩, a4, a5, a6.trans C4, by omega, by omega, a9, a10⟩
            clear G4 hm4 C4 hg4 hb4
            go_wp2_with fail
            go_meet
            case rel => exact ⟨g4, b4, hb, num, kind, L4, rfl, B4.out⟩
          · have e7 : (d == 7) = false := by simpa using h7
            clear h6 h7
            go_wp2_with fail
            have BD := Lib.hid (hBW.out.free ((Chg.refl (fun _ => False) W).drew))
            have HXD : Hid (W.drew.heap[gx]? = some (.cells x.cells.toArray 38 (0, 0))) := HX.out
            go_region_held3 (fun w' => w'.cell? ⟨gx, 1, none⟩ = some (.int .i64 x.i) ∧ w'.cell? ⟨gx, 2, none⟩ = some (.int .i64 x.kind) ∧ w'.cell? ⟨gx, 3, none⟩ = some (.int .i64 x.mq) ∧ w'.cell? ⟨gx, 4, none⟩ = some (.int .i64 x.nd) ∧ w'.cell? ⟨gx, 5, none⟩ = some (.int .i64 x.ni) ∧ w'.cell? ⟨gx, 6, none⟩ = some (.int .i64 x.bk) ∧ w'.cell? ⟨gx, 7, none⟩ = some (.int .i64 x.mn) ∧ w'.cell? ⟨gx, 8, none⟩ = some (.slice x.A x.n x.c))
              (first | exact x_cells HX5.out | exact x_cells HX4.out | exact x_cells HX.out)
              (first
                | (go_at_call 13; refine (arriveG BD.out.G _ _ _ _ _ _ _ _ _ _).mono ?_; rintro e w4 ⟨b4, rfl, G4, C4, hb4⟩; have Q4 := Lib.hid (And.intro G4 (And.intro C4 hb4)); have HX4 := Lib.hid (C4.blk HXD.out (fun hh => hh.elim hne.out.1 hne.out.2.1)); have R4 := Lib.hid (BD.out.one G4 C4 hb4); clear G4 C4 hb4)
                | (go_at_call 20; refine (arriveR R4.out.1 hm6 BD.out.W BD.out.hn BD.out.hk _ _ _ _ _ _ _ _ _ _).mono ?_; rintro e w5 ⟨b5, rfl, G5, C5, hb5⟩; have B5 := Lib.hid (BD.out.two Q4.out.1 Q4.out.2.1 Q4.out.2.2 G5 C5 hb5 (stepV BD.out.W BD.out.hn BD.out.hk _ _ _ _).1 (stepV BD.out.W BD.out.hn BD.out.hk _ _ _ _).2.1 (stepV BD.out.W BD.out.hn BD.out.hk _ _ _ _).2.2); have HX5 := Lib.hid (C5.blk HX4.out (fun hh => hh.elim hne.out.2.2.1 hne.out.2.2.2)); clear G5 C5 hb5))
            go_wp2_with fail
            go_meet
            case rel => exact ⟨g, b4, b5, _, _, _, rfl, B5.out⟩
      case rest =>
        clear hBW hlx hne HX
        obtain ⟨g, b, hb, num, kind, L, rfl, hB⟩ := hcut
        go_upto_region 22 with (fail)
        go_cut [84] (fun v wd => v = .bool false ∧ Hid (Both w wd g b h hb m num kind L))
        case first =>
          have c0 := blk_cell hB.out.R.1 0; have c1 := blk_cell hB.out.R.1 1
          simp only [List.size_toArray, List.getElem?_toArray, List.getElem?_cons_zero, List.getElem?_cons_succ] at c0 c1
          have HN := Lib.hid (fun nq => number (hB.out.G.drewN nq))
          by_cases hp : 0 < num
          all_goals
            have hp' : decide (0 < num) = decide (0 < num) := rfl
            simp only [hp, decide_true, decide_false] at hp'
            have HY := Lib.hid (fun nq => busyT (hB.out.G.drewN nq) _ (rfl : decide (0 < num) = decide (0 < num)))
            simp only [hp, decide_true, decide_false] at HY
          · have hq : decide (0 < num) = true := by simpa using hp
            clear hp hp'
            go_quiet ((first | (go_at_call 14; exact Calls.quiet_of_same ((HY.out _).mono fun _ _ h => ⟨h.1, h.2.symm⟩)) | (go_at_call 15; exact Calls.quiet_of_same ((HN.out _).mono fun _ _ h => ⟨h.1, h.2.symm⟩))))
            go_wp2_with fail
            go_meet
            case rel => exact ⟨rfl, hB.out.free ((Chg.refl _ _).drewN _)⟩
          · have hq : decide (0 < num) = false := by simpa using hp
            clear hp hp'
            go_quiet ((first | (go_at_call 14; exact Calls.quiet_of_same ((HY.out _).mono fun _ _ h => ⟨h.1, h.2.symm⟩)) | (go_at_call 15; exact Calls.quiet_of_same ((HN.out _).mono fun _ _ h => ⟨h.1, h.2.symm⟩))))
            go_wp2_with fail
            go_meet
            case rel => exact ⟨rfl, hB.out.free ((Chg.refl _ _).drewN _)⟩
        case rest =>
          obtain ⟨rfl, hB⟩ := hcut
          go_upto_block 3 with (fail)
          go_cut [] (fun wd => Hid (Both w wd g b h hb m num kind L))
          case first =>
            go_wp2_with fail
            go_loopg [10] m (fun kq v10 wd => ∃ k2 : Nat, v10 = .int .i64 k2 ∧ k2 + kq = m ∧ Hid (Both w wd g b h hb m num kind L))
            case atStart => exact ⟨0, rfl, by omega, hB.out⟩
            case round =>
              obtain ⟨k2, rfl, hk2, hB⟩ := hrel
              have c0 := blk_cell hB.out.R.1 0
              simp only [List.size_toArray, List.getElem?_toArray, List.getElem?_cons_zero] at c0
              by_cases hkm : k2 < m
              · have hcm := hB.out.R.2.cell (i := k2) (by rw [cm_length]; exact hkm)
                rw [cm_get hkm] at hcm
                have HC := Lib.hid (fun nq => came (hB.out.G.drewN nq) (k2 : Int))
                generalize decide ((k2 : Int) ∈ L) = bb at hcm HC
                cases bb
                all_goals
                  go_wp2_with fail
                  go_quiet ((go_at_call 21; exact Calls.quiet_of_same ((HC.out _).mono fun _ _ h => ⟨h.1, h.2.symm⟩)))
                  go_wp2_with fail
                  obtain ⟨k1, rfl⟩ : ∃ k1, gk = k1 + 1 := ⟨gk - 1, by omega⟩
                  go_roundg k1
                  case measure => omega
                  case rel => exact ⟨k2 + 1, by go_num, by omega, hB.out.free ((Chg.refl _ _).drewN _)⟩
              · go_wp2_with fail
                go_meet
                case rel => exact hB
          case rest =>
            have c0 := blk_cell hcut.out.R.1 0
            simp only [List.size_toArray, List.getElem?_toArray, List.getElem?_cons_zero] at c0
            have e1 : decide ((-1 : Int) ∈ L) = false := by
              rw [decide_eq_false_iff_not]; intro h; have := hcut.out.W.2 _ h; omega
            have e2 : decide ((m : Int) ∈ L) = false := by
              rw [decide_eq_false_iff_not]; intro h; have := hcut.out.W.2 _ h; omega
            have HC1 := Lib.hid (came hcut.out.G (-1))
            have HC2 := Lib.hid (came hcut.out.G (m : Int))
            rw [e1] at HC1; rw [e2] at HC2
            clear e1 e2
            go_wp2_with fail
            refine HC1.out.mono ?_
            rintro e w' ⟨rfl, rfl⟩
            go_wp2_with fail
            refine HC2.out.mono ?_
            rintro e w' ⟨rfl, rfl⟩
            go_wp2_with fail
            obtain ⟨k1, rfl⟩ : ∃ k1, gk = k1 + 1 := ⟨gk - 1, by omega⟩
            go_roundg k1
            case measure => omega
            case rel => exact ⟨k + 1, g, b, hb, num, kind, L, by go_num, by omega, rfl, hcut⟩
    · go_wp2_with fail
      go_ret
      exact ⟨rfl, hB.out.C⟩
end Go.Proofs.Ytkfimfhkmgcnlaa.GLaw
