/- General words: what a call changes (Chg), maps from int to bool that are sets (SetMap). -/
import Derived.WalkKit
import Derived.Maps.RangeWalk
import Derived.Deep.QuietTactic
import Derived.BigQuiet
import Derived.Lib.Hide
import Derived.WideKeyEntry
import Derived.Laws.MakeOwn
import Derived.Deep.OwnRows
import Derived.Test.YtkfimfhkmgcnlaaChecked
namespace Go.Proofs.Ytkfimfhkmgcnlaa.B
open Go Go.RowKit Go.MapKept Go.ChangeMaps

/-- w' is w but for the blocks of S (of those that w has), and new blocks. -/
structure Chg (S : Nat → Prop) (w w' : World) : Prop where
  os : w'.os = w.os
  tape : w'.tape = w.tape
  output : w'.output = w.output
  size : w.heap.size ≤ w'.heap.size
  block : ∀ k, k < w.heap.size → ¬ S k → w'.heap[k]? = w.heap[k]?

namespace Chg
variable {S S' : Nat → Prop} {w w1 w2 : World}
theorem refl (S : Nat → Prop) (w : World) : Chg S w w := ⟨rfl, rfl, rfl, Nat.le_refl _, fun _ _ _ => rfl⟩
theorem trans' (h : Chg S w w1) (k : Chg S' w1 w2) (hs : ∀ i, S' i → S i ∨ w.heap.size ≤ i) : Chg S w w2 :=
  ⟨k.os.trans h.os, k.tape.trans h.tape, k.output.trans h.output, Nat.le_trans h.size k.size, fun i hi hn =>
    (k.block i (Nat.lt_of_lt_of_le hi h.size) (fun h2 => (hs i h2).elim hn (fun h3 => by omega))).trans (h.block i hi hn)⟩
theorem trans (h : Chg S w w1) (k : Chg S w1 w2) : Chg S w w2 := h.trans' k (fun _ h => .inl h)
theorem mono (h : Chg S w w1) (hs : ∀ i, S i → S' i) : Chg S' w w1 := ⟨h.os, h.tape, h.output, h.size, fun i hi hn => h.block i hi (fun hk => hn (hs i hk))⟩
theorem drewN (h : Chg S w w1) (n : Nat) : Chg S w (w1.drewN n) := ⟨h.os, h.tape, h.output, h.size, h.block⟩
theorem drew (h : Chg S w w1) : Chg S w w1.drew := ⟨h.os, h.tape, h.output, h.size, h.block⟩
theorem of_below {B : Nat} (h : Below B w w1) (hB : w.heap.size ≤ B) : Chg S w w1 := ⟨h.os, h.tape, h.output, h.size, fun k hk _ => h.block k (by omega)⟩
theorem below (h : Chg S w w1) (hs : ∀ i, S i → w.heap.size ≤ i) : Below w.heap.size w w1 := ⟨h.os, h.tape, h.output, h.size, fun k hk => h.block k hk (fun h2 => by have := hs k h2; omega)⟩
theorem alloc (h : Chg S w w1) (o : Obj) : Chg S w (w1.alloc o) :=
  h.trans' (S' := fun _ => False) ⟨rfl, rfl, rfl, by simp, fun k hk _ => Below.heap_alloc _ _ _ hk⟩ (fun _ h => h.elim)
theorem setCell (h : Chg S w w1) {p : Addr} (hp : S p.block ∨ w.heap.size ≤ p.block) (u : Value) : Chg S w (w1.setCell p u) :=
  h.trans' (S' := fun k => k = p.block) ⟨rfl, rfl, rfl, by simp [World.setCell], fun k _ hn => Below.heap_setCell _ _ _ _ hn⟩ (fun i hi => by rw [hi]; exact hp)
theorem setBlock (h : Chg S w w1) {b : Nat} (hb : S b ∨ w.heap.size ≤ b) (es : Array MapEntry) (c : Nat) : Chg S w (setBlock w1 b (.map es c)) :=
  h.trans' (S' := fun k => k = b) ⟨rfl, rfl, rfl, by simp [ChangeMaps.setBlock], fun k _ hn => by simp [ChangeMaps.setBlock, Array.getElem?_setIfInBounds]; intro h; exact absurd h.symm hn⟩ (fun i hi => by rw [hi]; exact hp_ hb)
where hp_ {b : Nat} {A : Prop} (h : A ∨ w.heap.size ≤ b) := h
theorem grown (h : Chg S w w1) {row : Option Nat} (hg : w1.grownBy w2 row) (hr : ∀ k, row = some k → S k ∨ w.heap.size ≤ k) : Chg S w w2 :=
  h.trans' (S' := fun k => row = some k) ⟨hg.os, hg.tape, hg.output, hg.size, fun i hi hn => hg.block i hi (fun he => hn he.symm)⟩ hr
theorem blk {g : Nat} {o : Obj} (h : Chg S w w1) (hb : w.heap[g]? = some o) (hn : ¬ S g) : w1.heap[g]? = some o :=
  (h.block g (Array.getElem?_eq_some_iff.1 hb).1 hn).trans hb
end Chg

section
variable {w : World} {g : Nat} {cs : Array Value} {t : TypeId} {o : Obj}
theorem blk_lt (h : w.heap[g]? = some o) : g < w.heap.size := (Array.getElem?_eq_some_iff.1 h).1
theorem blk_alloc (h : w.heap[g]? = some o) (o' : Obj) : (w.alloc o').heap[g]? = some o := (Below.heap_alloc _ _ _ (blk_lt h)).trans h
theorem blk_new (w : World) (o : Obj) : (w.alloc o).heap[w.heap.size]? = some o := (MapKept.heap_alloc w _).1
theorem blk_set (h : w.heap[g]? = some (.cells cs t (0, 0))) (i : Nat) (u : Value) : (w.setCell ⟨g, i, none⟩ u).heap[g]? = some (.cells (cs.setIfInBounds i u) t (0, 0)) := by
  simp only [World.setCell, Array.getElem?_modify, h]; simp
theorem blk_far (h : w.heap[g]? = some o) {p : Addr} (hp : g ≠ p.block) (u : Value) : (w.setCell p u).heap[g]? = some o := (Below.heap_setCell w p u g hp).trans h
theorem size_set (w : World) (p : Addr) (u : Value) : (w.setCell p u).heap.size = w.heap.size := by simp [World.setCell]
theorem blk_cell (h : w.heap[g]? = some (.cells cs t (0, 0))) (i : Nat) : w.cell? ⟨g, i, none⟩ = cs[i]? := by simp [World.cell?, h]
theorem blk_free (h : w.heap[g]? = some (.cells cs t (0, 0))) (i : Nat) : w.frozen? ⟨g, i, none⟩ = false := by simp [World.frozen?, h]
end

/-- Block g is a row of ints. -/
def RowI (w : World) (g : Nat) (xs : List Int) : Prop := w.heap[g]? = some (.cells (xs.map (Value.int .i64)).toArray 3 (0, 0))
theorem RowI.kept {S : Nat → Prop} {w w1 : World} {g : Nat} {xs : List Int} (h : RowI w g xs) (hc : Chg S w w1) (hn : ¬ S g) : RowI w1 g xs := hc.blk h hn
theorem RowI.cell {w : World} {g : Nat} {xs : List Int} (h : RowI w g xs) {i : Nat} (hi : i < xs.length) : w.cell? ⟨g, i, none⟩ = some (.int .i64 (xs.getD i 0)) := by
  rw [blk_cell h]; simp [List.getElem?_map, List.getElem?_eq_getElem hi, List.getD_eq_getElem?_getD]
theorem RowI.free {w : World} {g : Nat} {xs : List Int} (h : RowI w g xs) (i : Nat) : w.frozen? ⟨g, i, none⟩ = false := blk_free h i
theorem RowI.set {w : World} {g : Nat} {xs : List Int} (h : RowI w g xs) (i : Nat) (x : Int) : RowI (w.setCell ⟨g, i, none⟩ (.int .i64 x)) g (xs.set i x) := by
  have := blk_set h i (.int .i64 x)
  unfold RowI
  rw [this, List.map_set]
  simp
theorem RowI.new (w : World) (n : Nat) : RowI (w.alloc (.cells (madeCells #[.int .i64 0] n) 3)) w.heap.size (List.replicate n 0) := by
  unfold RowI
  rw [blk_new]
  congr 2
  apply Array.ext'
  simp only [madeCells, List.map_replicate]
  apply List.ext_getElem
  · simp
  · intro i h1 h2; simp [Nat.mod_one]
theorem RowI.lt {w : World} {g : Nat} {xs : List Int} (h : RowI w g xs) : g < w.heap.size := blk_lt h
theorem ne_blk {w : World} {g g' : Nat} {o o' : Obj} (h : w.heap[g]? = some o) (h' : w.heap[g']? = some o') (hne : o ≠ o') : g ≠ g' := by
  rintro rfl; rw [h] at h'; exact hne (Option.some.inj h')

/-- A slice of ints that is read. -/
def ReadsI (w : World) (A : Option Addr) (xs : List Int) : Prop := 0 < xs.length → ∃ ad : Addr, A = some ad ∧ ∀ j, j < xs.length → w.cell? (ad.add j) = some (.int .i64 (xs.getD j 0))
theorem ReadsI.kept {w w1 : World} {A : Option Addr} {xs : List Int} (h : ReadsI w A xs) (hc : Chg (fun _ => False) w w1) : ReadsI w1 A xs := by
  intro hp
  obtain ⟨ad, e, h⟩ := h hp
  refine ⟨ad, e, fun j hj => ?_⟩
  have h1 := h j hj
  have hlt := World.block_lt_of_cell? w _ h1
  have := hc.block _ hlt (fun h => h)
  simpa [World.cell?, this] using h1

theorem readsI_of_row {w : World} {x : Addr} {len cap : Nat} {zs : List Int} (hl : len ≤ cap) (hz : zs.length = cap) (hcell : ∀ i, i < zs.length → w.cell? (x.add i) = some (.int .i64 (zs.getD i 0))) :
    ∃ ys : List Int, ys.length = len ∧ ReadsI w (some x) ys := by
  refine ⟨zs.take len, by simp; omega, fun _ => ⟨x, rfl, fun j hj => ?_⟩⟩
  rw [List.length_take] at hj
  rw [hcell j (by omega)]
  simp [List.getD_eq_getElem?_getD, show j < len by omega]

/-- Block b is a map from int to bool in which just the keys of L are, each with true. -/
def SetMap (w : World) (b : Nat) (L : List Int) : Prop :=
  ∃ es clock, w.heap[b]? = some (.map es clock) ∧ es.toList.map (fun e => (e.key, e.val)) = L.map (fun i => (Value.int .i64 i, Value.bool true)) ∧ L.Nodup ∧
    (∀ e ∈ es.toList, e.born < clock) ∧ (es.toList.map (·.born)).Nodup

section
variable {P : Program} {w : World} {b : Nat} {L : List Int} {t : TypeId}

theorem findNow_set (i : Int) : ∀ (es : List MapEntry) (L : List Int) (n : Nat), es.map (fun e => (e.key, e.val)) = L.map (fun i => (Value.int .i64 i, Value.bool true)) →
    Instr.findNow (.int .i64) (.int .i64 i) es n = some (if i ∈ L then some (n + L.idxOf i, .bool true) else none)
  | [], [], n, _ => by simp [Instr.findNow]
  | [], _ :: _, n, h => by simp at h
  | _ :: _, [], n, h => by simp at h
  | e :: es, x :: L, n, h => by
    simp only [List.map_cons, List.cons.injEq, Prod.mk.injEq] at h
    obtain ⟨⟨hk, hv⟩, hr⟩ := h
    have ih := findNow_set i es L (n + 1) hr
    simp only [Instr.findNow, hk, Instr.sameNow, if_true]
    by_cases hx : i = x
    · subst hx; simp [hv]
    · have hb : (i == x) = false := by simpa using hx
      simp only [hb, ih]
      by_cases hm : i ∈ L
      · rw [if_pos hm, if_pos (List.mem_cons_of_mem _ hm)]
        have : (x :: L).idxOf i = L.idxOf i + 1 := by
          rw [List.idxOf_cons]; simp [show (x == i) = false from by simpa using fun h => hx h.symm]
        rw [this]; congr 2; simp; omega
      · rw [if_neg hm, if_neg (by simp [hx, hm])]

theorem SetMap.lt (h : SetMap w b L) : b < w.heap.size := by
  obtain ⟨es, c, hb, _⟩ := h
  exact (Array.getElem?_eq_some_iff.1 hb).1
theorem SetMap.kept {S : Nat → Prop} {w1 : World} (h : SetMap w b L) (hc : Chg S w w1) (hn : ¬ S b) : SetMap w1 b L := by
  obtain ⟨es, c, hb, r⟩ := h
  exact ⟨es, c, hc.blk hb hn, r⟩
theorem SetMap.made (w : World) : SetMap (w.alloc (.map #[] 0)) w.heap.size [] := ⟨#[], 0, (MapKept.heap_alloc w _).1, by simp, by simp, by simp, by simp⟩

theorem check_int (h3 : P.underlying 3 = some (.int .i64)) (e : Bool) (i : Int) (w : World) : (Instr.checkKey e 10000 3 (.int .i64 i)).run P w = .ok () w := by
  rw [show (10000 : Nat) = 9999 + 1 from rfl, Instr.checkKey]
  simp [run_underlying h3]

theorem SetMap.lookup (h : SetMap w b L) (hm : P.underlying t = some (.map 3 4)) (h3 : P.underlying 3 = some (.int .i64)) (hz : (zeroValue 4).run P w = .ok (.bool false) w) (i : Int) :
    (Instr.lookup t (.map (some b)) (.int .i64 i) false).run P w = .ok (.bool (decide (i ∈ L))) w := by
  obtain ⟨es, c, hb, hes, hL, _⟩ := h
  have hf := findNow_set i es.toList L 0 hes
  by_cases hi : i ∈ L
  · simp [Instr.lookup, run_underlying hm, MapKept.run_getObj_map hb, check_int h3, run_underlying h3, Instr.findKey, hf, hi, Result.andThen]
  · simp [Instr.lookup, run_underlying hm, MapKept.run_getObj_map hb, check_int h3, run_underlying h3, Instr.findKey, hf, hi, Result.andThen, hz]

theorem SetMap.len (h : SetMap w b L) (hm : P.underlying t = some (.map 3 4)) (ty : TypeId) : (Builtin.len_ #[t] ty #[.map (some b)]).run P w = .ok (.int .i64 L.length) w := by
  obtain ⟨es, c, hb, hes, hL, _⟩ := h
  have hl : es.size = L.length := by have := congrArg List.length hes; simpa using this
  simp [Builtin.len_, run_underlying hm, MapKept.run_getObj_map hb, Result.andThen, hl, goInt]

theorem findIdx_of_born {l : List MapEntry} (hn : (l.map (·.born)).Nodup) {j : Nat} {e0 : MapEntry} (h : l[j]? = some e0) : l.findIdx? (fun e => ((e.born : Nat) : Int) == ((e0.born : Nat) : Int)) = some j :=
  WideElems.findIdx_born hn h

/-- 'm[i] = true' of a statement with several stores: the entry is made, and written later, when other blocks may have changed. -/
theorem SetMap.entry (h : SetMap w b L) (hm : P.underlying t = some (.map 3 4)) (h3 : P.underlying 3 = some (.int .i64)) (hz : (zeroValue 4).run P w = .ok (.bool false) w) (i : Int) :
    ∃ (v0 : Value) (st : Nat) (es1 : Array MapEntry) (c1 : Nat), (Instr.mapEntry t (.map (some b)) (.int .i64 i)).run P w = .ok (.tuple #[v0, goInt st]) (setBlock w b (.map es1 c1)) ∧
      ∀ w2 : World, w2.heap[b]? = some (.map es1 c1) → ∃ es2 c2, (Instr.entryStore t (.map (some b)) (goInt st) (.bool true)).run P w2 = .ok () (setBlock w2 b (.map es2 c2)) ∧
        SetMap (setBlock w2 b (.map es2 c2)) b (if i ∈ L then L else L ++ [i]) := by
  obtain ⟨es, c, hb, hes, hL, hbo, hnd⟩ := h
  have hf := findNow_set i es.toList L 0 hes
  by_cases hi : i ∈ L
  · rw [if_pos hi] at hf
    have hlt := List.idxOf_lt_length_of_mem hi
    have hlen : es.toList.length = L.length := by have := congrArg List.length hes; simpa using this
    have hj : L.idxOf i < es.toList.length := by omega
    obtain ⟨e0, he0⟩ : ∃ e0, es.toList[L.idxOf i]? = some e0 := ⟨_, List.getElem?_eq_getElem hj⟩
    have hkv : (e0.key, e0.val) = (Value.int .i64 i, Value.bool true) := by
      have h1 := congrArg (fun l => l[L.idxOf i]?) hes
      simp only [List.getElem?_map, he0, Option.map_some] at h1
      rw [List.getElem?_eq_getElem hlt, List.getElem_idxOf] at h1
      simpa using h1
    simp only [Prod.mk.injEq] at hkv
    have he0' : es[L.idxOf i]? = some e0 := by simpa using he0
    have hse : ({ e0 with key := .int .i64 i } : MapEntry) = e0 := by rw [← hkv.1]
    have hsv : ({ e0 with val := .bool true } : MapEntry) = e0 := by rw [← hkv.2]
    have hmod : es.modify (L.idxOf i) (fun e => { e with key := .int .i64 i }) = es := by
      apply Array.ext'
      rw [Array.toList_modify, modify_eq_set _ _ _ _ he0, hse]
      exact WideElems.set_self _ _ _ he0
    have hmod2 : es.modify (L.idxOf i) (fun e => { e with val := .bool true }) = es := by
      apply Array.ext'
      rw [Array.toList_modify, modify_eq_set _ _ _ _ he0, hsv]
      exact WideElems.set_self _ _ _ he0
    have hidx : es.findIdx? (fun e => ((e.born : Nat) : Int) == ((e0.born : Nat) : Int)) = some (L.idxOf i) := by
      rw [WideElems.findIdx_arr]; exact WideElems.findIdx_born hnd he0
    have hkk : ∀ W : World, (Instr.keyThatStays (.int .i64 i) (.int .i64 i)).run P W = .ok (.int .i64 i) W := by
      intro W
      have : Instr.sameBits 10000 (.int .i64 i) (.int .i64 i) = true := by rw [show (10000 : Nat) = 9999 + 1 from rfl, Instr.sameBits]; simp
      simp [Instr.keyThatStays, this]
    refine ⟨.bool true, e0.born, es, c, ?_, fun w2 hw2 => ⟨es, c, ?_, ?_⟩⟩
    · simp [Instr.mapEntry, run_underlying hm, MapKept.run_getObj_map hb, check_int h3, run_underlying h3, Instr.findKey, hf, Result.andThen, he0', hkv.1, hkk, hmod, MapKept.run_setObj_map _ hb, setBlock]
    · simp [Instr.entryStore, MapKept.run_getObj_map hw2, asInt, asIntOf, goInt, hidx, hmod2, MapKept.run_setObj_map _ hw2, Result.andThen, setBlock]
    · rw [if_pos hi]
      exact ⟨es, c, heap_setBlock_same hw2 _, hes, hL, hbo, hnd⟩
  · rw [if_neg hi] at hf
    have hidx : (es.push ⟨.int .i64 i, .bool false, c⟩).findIdx? (fun e => ((e.born : Nat) : Int) == ((c : Nat) : Int)) = some es.size := by
      rw [WideElems.findIdx_arr]
      refine WideElems.findIdx_born (l := (es.push ⟨.int .i64 i, .bool false, c⟩).toList) (j := es.size) (e0 := ⟨.int .i64 i, .bool false, c⟩) ?_ (by simp)
      simp only [Array.toList_push, List.map_append, List.map_cons, List.map_nil]
      refine List.nodup_append.2 ⟨hnd, by simp, fun a ha d hd e1 => ?_⟩
      simp only [List.mem_singleton] at hd
      obtain ⟨x, hx, rfl⟩ := List.mem_map.1 ha
      have := hbo x hx
      omega
    have hmod : (es.push ⟨.int .i64 i, .bool false, c⟩).modify es.size (fun e => { e with val := .bool true }) = es.push ⟨.int .i64 i, .bool true, c⟩ := by
      apply Array.ext'
      rw [Array.toList_modify, Array.toList_push, Array.toList_push, ← Array.length_toList, WideElems.modify_last]
    refine ⟨.bool false, c, es.push ⟨.int .i64 i, .bool false, c⟩, c + 1, ?_, fun w2 hw2 => ⟨es.push ⟨.int .i64 i, .bool true, c⟩, c + 1, ?_, ?_⟩⟩
    · simp [Instr.mapEntry, run_underlying hm, MapKept.run_getObj_map hb, check_int h3, run_underlying h3, Instr.findKey, hf, Result.andThen, hz, MapKept.run_setObj_map _ hb, setBlock]
    · simp [Instr.entryStore, MapKept.run_getObj_map hw2, asInt, asIntOf, goInt, hidx, hmod, MapKept.run_setObj_map _ hw2, Result.andThen, setBlock]
    · rw [if_neg hi]
      refine ⟨_, _, heap_setBlock_same hw2 _, ?_, ?_, ?_, ?_⟩
      · simp [hes]
      · exact List.nodup_append.2 ⟨hL, by simp, fun a ha d hd e1 => by simp at hd; subst hd; subst e1; exact hi ha⟩
      · intro e he
        simp only [Array.toList_push, List.mem_append, List.mem_singleton] at he
        rcases he with he | rfl
        · have := hbo e he; omega
        · show c < c + 1; omega
      · simp only [Array.toList_push, List.map_append, List.map_cons, List.map_nil]
        refine List.nodup_append.2 ⟨hnd, by simp, fun a ha d hd e1 => ?_⟩
        simp only [List.mem_singleton] at hd
        obtain ⟨x, hx, rfl⟩ := List.mem_map.1 ha
        have := hbo x hx
        omega
theorem chg_setBlock {b : Nat} {es : Array MapEntry} {c : Nat} (hb : w.heap[b]? = some (.map es c)) (es1 : Array MapEntry) (c1 : Nat) : Chg (fun k => k = b) w (setBlock w b (.map es1 c1)) :=
  ⟨rfl, rfl, rfl, by simp [setBlock], fun k _ hn => heap_setBlock_other hb _ hn⟩

/-- .. with the worlds under names. -/
theorem SetMap.entry' (h : SetMap w b L) (hm : P.underlying t = some (.map 3 4)) (h3 : P.underlying 3 = some (.int .i64)) (hz : (zeroValue 4).run P w = .ok (.bool false) w) (i : Int) :
    ∃ (v0 st : Value) (W1 W2 : World), (Instr.mapEntry t (.map (some b)) (.int .i64 i)).run P w = .ok (.tuple #[v0, st]) W1 ∧ (Instr.entryStore t (.map (some b)) st (.bool true)).run P W1 = .ok () W2 ∧
        Chg (fun k => k = b) w W1 ∧ Chg (fun k => k = b) w W2 ∧ SetMap W2 b (if i ∈ L then L else L ++ [i]) := by
  obtain ⟨v0, st, es1, c1, h1, h2⟩ := h.entry hm h3 hz i
  obtain ⟨es, c, hb, _⟩ := h
  have hw1 : (setBlock w b (.map es1 c1)).heap[b]? = some (.map es1 c1) := heap_setBlock_same hb _
  obtain ⟨es2, c2, h3', h4⟩ := h2 _ hw1
  exact ⟨v0, goInt st, _, _, h1, h3', chg_setBlock hb _ _, (chg_setBlock hb _ _).trans (chg_setBlock hw1 _ _), h4⟩
end
end Go.Proofs.Ytkfimfhkmgcnlaa.B
