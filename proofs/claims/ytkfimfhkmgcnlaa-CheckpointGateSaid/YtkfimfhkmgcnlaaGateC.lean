/- The gate's Came and Copy. -/
import Derived.Test.YtkfimfhkmgcnlaaGate3
import Derived.Deep.LoopGhost
import Derived.Maps.RangeRun
namespace Go.Proofs.Ytkfimfhkmgcnlaa.Gate
set_option linter.unusedVariables false
set_option linter.unusedSimpArgs false
open Go Go.RowKit Go.MapKept Go.ChangeMaps Go.Proofs.Ytkfimfhkmgcnlaa.B

theorem came {w : World} {g b : Nat} {n num kind : Int} {L : List Int} (h : GateAt w g b n num kind L) (i : Int) :
    Calls Try.prog 21 #[.pointer (some ⟨g, 0, none⟩), .int .i64 i] w fun e w' => e = .returned (.bool (decide (i ∈ L))) ∧ w = w' := by
  obtain ⟨c0, c1, c2, c3, cf, hlt⟩ := h.cells
  have hl := SetMap.lookup (P := Try.prog) h.2 Try.underlying86 Try.underlying3 (zero4 _) i
  clear h c0 c2 c3 cf hlt
  go_enter Try.func21, Try.ntmps21
  go_wp2
  go_ret
  exact ⟨rfl, rfl⟩

/-- At r lies an iterator over the set at b; the keys of D have come. -/
def Iter (w : World) (b r : Nat) (L D : List Int) : Prop :=
  ∃ es clock seen, w.heap[b]? = some (.map es clock) ∧ es.toList.map (fun e => (e.key, e.val)) = L.map (fun i => (Value.int .i64 i, Value.bool true)) ∧ L.Nodup ∧
    (∀ e ∈ es.toList, e.born < clock) ∧ (es.toList.map (·.born)).Nodup ∧ w.heap[r]? = some (.mapIter (some b) clock seen clock) ∧
    (∀ e ∈ es.toList, seen.contains e.born = true ↔ ∃ i, i ∈ D ∧ e.key = .int .i64 i)
theorem Iter.kept {S : Nat → Prop} {w w1 : World} {b r : Nat} {L D : List Int} (h : Iter w b r L D) (hc : Chg S w w1) (h1 : ¬ S b) (h2 : ¬ S r) : Iter w1 b r L D := by
  obtain ⟨es, clock, seen, a1, a2, a3, a4, a5, a6, a7⟩ := h
  exact ⟨es, clock, seen, hc.blk a1 h1, a2, a3, a4, a5, hc.blk a6 h2, a7⟩
theorem Iter.lt {w : World} {b r : Nat} {L D : List Int} (h : Iter w b r L D) : b < w.heap.size ∧ r < w.heap.size ∧ b ≠ r := by
  obtain ⟨es, clock, seen, a1, a2, a3, a4, a5, a6, a7⟩ := h
  exact ⟨blk_lt a1, blk_lt a6, ne_blk a1 a6 (by simp)⟩
theorem Iter.start {w : World} {b : Nat} {L : List Int} (h : SetMap w b L) : ∃ o, (Instr.range 86 (.map (some b))).run Try.prog w = .ok (.pointer (some ⟨w.heap.size, 0, none⟩)) (w.alloc o) ∧ Iter (w.alloc o) b w.heap.size L [] := by
  obtain ⟨es, c, hb, a2, a3, a4, a5⟩ := h
  refine ⟨.mapIter (some b) c #[] c, ?_, es, c, #[], blk_alloc hb _, a2, a3, a4, a5, blk_new _ _, by simp⟩
  simp [Instr.range, run_underlying Try.underlying86, MapKept.run_getObj_map hb, Result.andThen, newObj, Sem.run, World.alloc_eq]
theorem mem_of_map {es : List MapEntry} {L : List Int} (h : es.map (fun e => (e.key, e.val)) = L.map (fun i => (Value.int .i64 i, Value.bool true))) : (∀ e ∈ es, ∃ i, i ∈ L ∧ e.key = .int .i64 i ∧ e.val = .bool true) ∧ ∀ i ∈ L, ∃ e ∈ es, e.key = .int .i64 i := by
  constructor
  · intro e he
    have : (e.key, e.val) ∈ L.map (fun i => (Value.int .i64 i, Value.bool true)) := by rw [← h]; exact List.mem_map.2 ⟨e, he, rfl⟩
    obtain ⟨i, hi, e1⟩ := List.mem_map.1 this
    simp only [Prod.mk.injEq] at e1
    exact ⟨i, hi, e1.1.symm, e1.2.symm⟩
  · intro i hi
    have : (Value.int .i64 i, Value.bool true) ∈ es.map (fun e => (e.key, e.val)) := by rw [h]; exact List.mem_map.2 ⟨i, hi, rfl⟩
    obtain ⟨e, he, e1⟩ := List.mem_map.1 this
    simp only [Prod.mk.injEq] at e1
    exact ⟨e, he, e1.1⟩
theorem inj_of_nodup {α β : Type} {f : α → β} : ∀ {l : List α}, (l.map f).Nodup → ∀ {x y : α}, x ∈ l → y ∈ l → f x = f y → x = y
  | [], _, x, _, hx, _, _ => by simp at hx
  | a :: l, h, x, y, hx, hy, he => by
    simp only [List.map_cons, List.nodup_cons] at h
    rcases List.mem_cons.1 hx with h1 | h1 <;> rcases List.mem_cons.1 hy with h2 | h2
    · rw [h1, h2]
    · exact absurd (List.mem_map.2 ⟨y, h2, by rw [← he, h1]⟩) h.1
    · exact absurd (List.mem_map.2 ⟨x, h1, by rw [he, h2]⟩) h.1
    · exact inj_of_nodup h.2 h1 h2 he
theorem keys_nodup {es : List MapEntry} {L : List Int} (h : es.map (fun e => (e.key, e.val)) = L.map (fun i => (Value.int .i64 i, Value.bool true))) (hL : L.Nodup) : (es.map (·.key)).Nodup := by
  have e1 : es.map (·.key) = L.map (fun i => Value.int .i64 i) := by
    have := congrArg (List.map Prod.fst) h
    simpa [List.map_map, Function.comp_def] using this
  rw [e1]
  refine List.Pairwise.map _ (fun a b hab e => hab ?_) hL
  injection e
theorem chg_iter {w : World} {r : Nat} {m : Option Nat} {s c : Nat} {seen : Array Nat} (h : w.heap[r]? = some (.mapIter m s seen c)) (o : Obj) : Chg (fun k => k = r) w (setBlock w r o) :=
  ⟨rfl, rfl, rfl, by simp [setBlock], fun k _ hn => by simp only [setBlock, Array.getElem?_setIfInBounds]; rw [if_neg (fun e => hn e.symm)]⟩
theorem Iter.next {w : World} {b r : Nat} {L D : List Int} (h : Iter w b r L D) (ty : TypeId) :
    ((∀ i ∈ L, i ∈ D) ∧ (Instr.next (.pointer (some ⟨r, 0, none⟩)) false ty).run Try.prog w = .ok (.tuple #[.bool false]) w) ∨
    ∃ (i : Int) (W1 : World), i ∈ L ∧ i ∉ D ∧ (Instr.next (.pointer (some ⟨r, 0, none⟩)) false ty).run Try.prog w = .ok (.tuple #[.bool true, .int .i64 i, .bool true]) W1 ∧
      (Instr.entry (.pointer (some ⟨r, 0, none⟩))).run Try.prog W1 = .ok (.tuple #[.int .i64 i, .bool true]) W1 ∧ Iter W1 b r L (i :: D) ∧ Chg (fun k => k = r) w W1 := by
  obtain ⟨es, clock, seen, a1, a2, a3, a4, a5, a6, a7⟩ := h
  have hne : b ≠ r := ne_blk a1 a6 (by simp)
  obtain ⟨m1, m2⟩ := mem_of_map a2
  rcases run_next_at (P := Try.prog) w ty r b clock clock seen es clock a6 a1 a4 (Nat.le_refl _) with ⟨h1, h2⟩ | ⟨e, he, w1, hw1, h2⟩
  · left
    refine ⟨fun i hi => ?_, h2⟩
    obtain ⟨e, he, hk⟩ := m2 i hi
    have : seen.contains e.born = true := by
      have h0 : leftOf es seen = #[] := Array.eq_empty_of_size_eq_zero h1
      unfold leftOf at h0
      rw [Array.filter_eq_empty_iff] at h0
      have := h0 e (by simpa using he)
      simpa using this
    obtain ⟨j, hj, hk2⟩ := (a7 e he).1 this
    rw [hk] at hk2
    injection hk2 with _ hk2
    subst hk2; exact hj
  · right
    have hee : e ∈ es.toList ∧ seen.contains e.born = false := by
      unfold leftOf at he
      simp at he
      exact ⟨by simpa using he.1, by simpa using he.2⟩
    obtain ⟨i, hi, hk, hv⟩ := m1 e hee.1
    have c1 : Chg (fun k => k = r) w w1 := by rcases hw1 with rfl | rfl; exact Chg.refl _ _; exact (Chg.refl _ _).drew
    have hr1 : w1.heap[r]? = some (.mapIter (some b) clock seen clock) := by rcases hw1 with rfl | rfl <;> exact a6
    have hb1 : w1.heap[b]? = some (.map es clock) := by rcases hw1 with rfl | rfl <;> exact a1
    have hb2 : (setBlock w1 r (.mapIter (some b) clock (seen.push e.born) clock)).heap[b]? = some (.map es clock) := (chg_iter hr1 _).blk hb1 hne
    have hr2 : (setBlock w1 r (.mapIter (some b) clock (seen.push e.born) clock)).heap[r]? = some (.mapIter (some b) clock (seen.push e.born) clock) := by
      simp only [setBlock, Array.getElem?_setIfInBounds, if_true]; rw [if_pos (blk_lt hr1)]
    rw [hk, hv] at h2
    have h3 := run_entry_at (P := Try.prog) _ r b clock seen es clock e hr2 hb2 hee.1 a5
    rw [hk, hv] at h3
    refine ⟨i, _, hi, fun hd => ?_, h2, h3, ⟨es, clock, seen.push e.born, hb2, a2, a3, a4, a5, hr2, fun e' he' => ?_⟩, c1.trans (chg_iter hr1 _)⟩
    · have := (a7 e hee.1).2 ⟨i, hd, hk⟩
      rw [hee.2] at this; cases this
    · have hcon : (seen.push e.born).contains e'.born = (seen.contains e'.born || (e.born == e'.born)) := by
        rw [Bool.eq_iff_iff]; simp; constructor <;> (rintro (h | h); exact .inl h; exact .inr h.symm)
      rw [hcon]
      simp only [Bool.or_eq_true, beq_iff_eq, List.mem_cons]
      rw [a7 e' he']
      constructor
      · rintro (⟨j, hj, h⟩ | h)
        · exact ⟨j, .inr hj, h⟩
        · have : e = e' := by
            exact inj_of_nodup a5 hee.1 he' h
          subst this
          exact ⟨i, .inl rfl, hk⟩
      · rintro ⟨j, rfl | hj, h⟩
        · right
          have : e.key = e'.key := by rw [hk, h]
          have := inj_of_nodup (keys_nodup a2 a3) hee.1 he' this
          rw [this]
        · exact .inl ⟨j, hj, h⟩

/-- 'm[i] = true' of one store. -/
theorem SetMap.put {w : World} {b : Nat} {L : List Int} (h : SetMap w b L) (i : Int) (hi : i ∉ L) : ∃ W, (Instr.mapUpdate 86 (.map (some b)) (.int .i64 i) (.bool true)).run Try.prog w = .ok () W ∧ SetMap W b (L ++ [i]) ∧ Chg (fun k => k = b) w W := by
  obtain ⟨es, c, hb, hes, hL, hbo, hnd⟩ := h
  have hf := findNow_set i es.toList L 0 hes
  rw [if_neg hi] at hf
  refine ⟨setBlock w b (.map (es.push ⟨.int .i64 i, .bool true, c⟩) (c + 1)), ?_, ⟨_, _, heap_setBlock_same hb _, ?_, ?_, ?_, ?_⟩, chg_setBlock hb _ _⟩
  · simp [Instr.mapUpdate, run_underlying Try.underlying86, MapKept.run_getObj_map hb, check_int Try.underlying3, run_underlying Try.underlying3, Instr.findKey, hf, Result.andThen, MapKept.run_setObj_map _ hb, setBlock]
  · simp [hes]
  · exact List.nodup_append.2 ⟨hL, by simp, fun a ha d hd e1 => by simp at hd; subst hd; subst e1; exact hi ha⟩
  · intro e he
    simp only [Array.toList_push, List.mem_append, List.mem_singleton] at he
    rcases he with he | rfl
    · have := hbo e he; omega
    · show c < c + 1; omega
  · simp only [Array.toList_push, List.map_append, List.map_cons, List.map_nil]
    refine List.nodup_append.2 ⟨hnd, by simp, fun a ha d hd e1 => ?_⟩
    simp only [List.mem_singleton] at hd
    obtain ⟨x, hx, rfl⟩ := List.mem_map.1 ha
    have := hbo x hx
    omega

def CopyPost (w : World) (n num kind : Int) (L : List Int) (e : Ending) (w' : World) : Prop :=
  ∃ g b L', e = .returned (.pointer (some ⟨g, 0, none⟩)) ∧ GateAt w' g b n num kind L' ∧ (∀ i, i ∈ L' ↔ i ∈ L) ∧ Chg (fun _ => False) w w' ∧ w.heap.size ≤ g ∧ w.heap.size ≤ b
set_option maxRecDepth 100000 in
set_option maxHeartbeats 1000000 in
theorem copy {w : World} {g b : Nat} {n num kind : Int} {L : List Int} (h : GateAt w g b n num kind L) :
    Calls Try.prog 19 #[.pointer (some ⟨g, 0, none⟩)] w (CopyPost w n num kind L) := by
  obtain ⟨c0, c1, c2, c3, cf, hlt⟩ := h.cells
  have hmm := @run_makeMap Try.prog
  have hC2 : Chg (fun _ => False) w ((w.alloc (.cells #[.int .i64 n, .map (some (w.heap.size + 1)), .int .i64 num, .int .i64 kind] 88)).alloc (.map #[] 0)) := ((Chg.refl _ _).alloc _).alloc _
  obtain ⟨o, hr0, hI0⟩ := Iter.start (h.2.kept hC2 (fun h => h))
  have hg2 : ((w.alloc (.cells #[.int .i64 n, .map (some (w.heap.size + 1)), .int .i64 num, .int .i64 kind] 88)).alloc (.map #[] 0)).heap[w.heap.size]? = some (.cells #[.int .i64 n, .map (some (w.heap.size + 1)), .int .i64 num, .int .i64 kind] 88 (0, 0)) := blk_alloc (blk_new _ _) _
  have hs2 : SetMap ((w.alloc (.cells #[.int .i64 n, .map (some (w.heap.size + 1)), .int .i64 num, .int .i64 kind] 88)).alloc (.map #[] 0)) (w.heap.size + 1) [] := by
    have := SetMap.made (w.alloc (.cells #[.int .i64 n, .map (some (w.heap.size + 1)), .int .i64 num, .int .i64 kind] 88)); simpa using this
  have hr : (Instr.range 86 (.map (some b))).run Try.prog ((w.alloc (.cells #[.int .i64 n, .map (some (w.heap.size + 1)), .int .i64 num, .int .i64 kind] 88)).alloc (.map #[] 0)) =
      .ok (.pointer (some ⟨w.heap.size + 1 + 1, 0, none⟩)) (((w.alloc (.cells #[.int .i64 n, .map (some (w.heap.size + 1)), .int .i64 num, .int .i64 kind] 88)).alloc (.map #[] 0)).alloc o) := by simpa using hr0
  have hST : Hid (Iter (((w.alloc (.cells #[.int .i64 n, .map (some (w.heap.size + 1)), .int .i64 num, .int .i64 kind] 88)).alloc (.map #[] 0)).alloc o) b (w.heap.size + 1 + 1) L [] ∧ GateAt (((w.alloc (.cells #[.int .i64 n, .map (some (w.heap.size + 1)), .int .i64 num, .int .i64 kind] 88)).alloc (.map #[] 0)).alloc o) w.heap.size (w.heap.size + 1) n num kind [] ∧ Chg (fun _ => False) w (((w.alloc (.cells #[.int .i64 n, .map (some (w.heap.size + 1)), .int .i64 num, .int .i64 kind] 88)).alloc (.map #[] 0)).alloc o)) :=
    ⟨by simpa using hI0, ⟨blk_alloc hg2 _, hs2.kept (S := fun _ => False) ((Chg.refl _ _).alloc _) (fun h => h)⟩, hC2.alloc _⟩
  have HL : Hid L.Nodup := by obtain ⟨es, c, _, _, hL, _⟩ := h.2; exact hL
  have hbl := h.2.lt
  clear cf hg2 hs2 hr0 hI0 hC2 h
  go_enter Try.func19, Try.ntmps19
  go_wp2
  go_loopg [4] L.length (fun kq _ wr => ∃ D : List Int, Hid (kq + D.length = L.length ∧ Iter wr b (w.heap.size + 1 + 1) L D ∧ GateAt wr w.heap.size (w.heap.size + 1) n num kind D.reverse ∧ Chg (fun _ => False) w wr ∧ (∀ i ∈ D, i ∈ L)))
  case atStart => exact ⟨[], by simp, hST.out.1, hST.out.2.1, hST.out.2.2, by simp⟩
  case round =>
    clear hST hr
    obtain ⟨D, hD⟩ := hrel
    obtain ⟨k0, k1, k2, k3, k4⟩ := hD.out
    rcases k1.next 0 with ⟨hall, hrun⟩ | ⟨i, W1, hi, hni, hrun, hent, hI1, hC1⟩
    · clear k1
      have hn2 : ∀ ty, (Instr.next (.pointer (some ⟨w.heap.size + 1 + 1, 0, none⟩)) false ty).run Try.prog wr = .ok (.tuple #[.bool false]) wr := fun ty => hrun
      have HA := Lib.hid hall; have H2 := Lib.hid k2; have H3 := Lib.hid k3; have H4 := Lib.hid k4
      clear hall k0 k2 k3 k4 hrun
      go_wp2
      go_ret
      refine ⟨w.heap.size, w.heap.size + 1, D.reverse, rfl, H2.out, fun i => ⟨fun h => H4.out i (List.mem_reverse.1 h), fun h => List.mem_reverse.2 (HA.out i h)⟩, H3.out, Nat.le_refl _, by omega⟩
    · obtain ⟨l1, l2, l3⟩ := hI1.lt
      have hg1 : w.heap.size ≠ w.heap.size + 1 + 1 := by omega
      have hG1 := k2.kept hC1 (by show ¬ w.heap.size = _; omega) (by show ¬ w.heap.size + 1 = _; omega)
      obtain ⟨W2, hput, hset, hC2⟩ := SetMap.put hG1.2 i (fun h => hni (List.mem_reverse.1 h))
      have e0 := blk_cell hG1.1 1
      simp at e0
      have hI2 := hI1.kept hC2 (by show ¬ b = _; omega) (by show ¬ w.heap.size + 1 + 1 = _; omega)
      have hG2 : GateAt W2 w.heap.size (w.heap.size + 1) n num kind (i :: D).reverse := ⟨hC2.blk hG1.1 (by show ¬ w.heap.size = _; omega), by simpa using hset⟩
      have hC3 : Chg (fun _ => False) w W2 := (k3.trans' hC1 (by rintro j h; right; omega)).trans' hC2 (by rintro j h; right; omega)
      have HI := Lib.hid hI2; have HG := Lib.hid hG2; have HC := Lib.hid hC3; have H4 := Lib.hid k4; have H0 := Lib.hid k0
      have hn2 : ∀ ty, (Instr.next (.pointer (some ⟨w.heap.size + 1 + 1, 0, none⟩)) false ty).run Try.prog wr = .ok (.tuple #[.bool true, .int .i64 i, .bool true]) W1 := fun ty => hrun
      have hlt2 : D.length < L.length := by
        have h1 := List.Nodup.length_le_of_subset (l₁ := (i :: D).reverse) (l₂ := L) (by obtain ⟨es, c, _, _, hL, _⟩ := hG2.2; exact hL) (fun x hx => by
          rcases List.mem_cons.1 (List.mem_reverse.1 hx) with rfl | hx
          · exact hi
          · exact k4 x hx)
        simp at h1; omega
      clear k0 k1 k2 k3 k4 hI1 hC1 hG1 hset hC2 hI2 hG2 hC3 hrun hD
      go_wp2
      go_roundg (gk - 1)
      case measure => have := H0.out; omega
      case rel => exact ⟨i :: D, by have := H0.out; simp; omega, HI.out, HG.out, HC.out, fun j hj => by
        rcases List.mem_cons.1 hj with rfl | hj
        · exact hi
        · exact H4.out j hj⟩
end Go.Proofs.Ytkfimfhkmgcnlaa.Gate
