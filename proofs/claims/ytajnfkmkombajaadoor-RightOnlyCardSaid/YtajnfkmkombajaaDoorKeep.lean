/- What a call leaves as it was, but for some blocks; blocks of numbers. No program in sight. -/
import Derived.Test.YtajnfkmkombajaaDoorBase
import Derived.OneCell
set_option linter.unusedVariables false
set_option linter.unusedSimpArgs false
namespace Go.Proofs.YtajnfkmkombajaaDoor
open Go.RowKit

/-- all blocks that were there are as they were, but for those of F; new ones may have come -/
structure Keep (F : Nat → Prop) (w w' : World) : Prop where
  os : w'.os = w.os
  tape : w'.tape = w.tape
  output : w'.output = w.output
  size : w.heap.size ≤ w'.heap.size
  block : ∀ k, k < w.heap.size → ¬ F k → w'.heap[k]? = w.heap[k]?

theorem Keep.refl (F : Nat → Prop) (w : World) : Keep F w w := ⟨rfl, rfl, rfl, Nat.le_refl _, fun _ _ _ => rfl⟩
theorem Keep.trans {F : Nat → Prop} {a b c : World} (h : Keep F a b) (k : Keep F b c) : Keep F a c :=
  ⟨k.os.trans h.os, k.tape.trans h.tape, k.output.trans h.output, Nat.le_trans h.size k.size, fun i hi hF => (k.block i (Nat.lt_of_lt_of_le hi h.size) hF).trans (h.block i hi hF)⟩
/-- the second step may write what is new since the first one's beginning -/
theorem Keep.andThen {F G : Nat → Prop} {a b c : World} (h : Keep F a b) (k : Keep G b c) (hG : ∀ i, G i → F i ∨ a.heap.size ≤ i) : Keep F a c :=
  ⟨k.os.trans h.os, k.tape.trans h.tape, k.output.trans h.output, Nat.le_trans h.size k.size, fun i hi hF => (k.block i (Nat.lt_of_lt_of_le hi h.size) (fun hg => (hG i hg).elim hF (by omega))).trans (h.block i hi hF)⟩
theorem Keep.mono {F G : Nat → Prop} {w w' : World} (h : Keep F w w') (hF : ∀ k, F k → G k) : Keep G w w' := ⟨h.os, h.tape, h.output, h.size, fun k hk hg => h.block k hk (fun hf => hg (hF k hf))⟩
theorem Keep.drew {F : Nat → Prop} {a w : World} (h : Keep F a w) : Keep F a w.drew := ⟨h.os, h.tape, h.output, h.size, h.block⟩
theorem Keep.drewN {F : Nat → Prop} {a w : World} (h : Keep F a w) (n : Nat) : Keep F a (w.drewN n) := ⟨h.os, h.tape, h.output, h.size, h.block⟩
theorem Keep.alloc {F : Nat → Prop} {a w : World} (h : Keep F a w) (o : Obj) : Keep F a (w.alloc o) :=
  ⟨h.os, h.tape, h.output, by have := h.size; simp; omega, fun k hk hF => by rw [Below.heap_alloc _ _ _ (Nat.lt_of_lt_of_le hk h.size)]; exact h.block k hk hF⟩
theorem Keep.setCell {F : Nat → Prop} {a w : World} (h : Keep F a w) {p : Addr} (hp : F p.block ∨ a.heap.size ≤ p.block) (u : Value) : Keep F a (w.setCell p u) :=
  ⟨h.os, h.tape, h.output, by have := h.size; simp [World.setCell]; exact this, fun k hk hF => by
    rw [Below.heap_setCell _ _ _ _ (by rintro rfl; exact hp.elim hF (by omega))]; exact h.block k hk hF⟩
/-- a store into the one block -/
theorem Keep.put {b o : Nat} {a w : World} (h : Keep (· = b) a w) (u : Value) : Keep (· = b) a (w.setCell ⟨b, o, none⟩ u) := h.setCell (p := ⟨b, o, none⟩) (.inl rfl) u
theorem Keep.grown {F : Nat → Prop} {a w w' : World} {row : Option Nat} (h : Keep F a w) (hg : w.grownBy w' row) (hr : ∀ k, row = some k → F k ∨ a.heap.size ≤ k) : Keep F a w' :=
  ⟨hg.os.trans h.os, hg.tape.trans h.tape, hg.output.trans h.output, Nat.le_trans h.size hg.size, fun k hk hF =>
    (hg.block k (Nat.lt_of_lt_of_le hk h.size) (fun e => (hr k e.symm).elim hF (by omega))).trans (h.block k hk hF)⟩
theorem Keep.of_below {F : Nat → Prop} {w w' : World} (h : Below w.heap.size w w') : Keep F w w' := ⟨h.os, h.tape, h.output, h.size, fun k hk _ => h.block k hk⟩
theorem Keep.below {F : Nat → Prop} {B : Nat} {w w' : World} (h : Keep F w w') (hB : B ≤ w.heap.size) (hF : ∀ k, F k → B ≤ k) : Below B w w' :=
  ⟨h.os, h.tape, h.output, h.size, fun k hk => h.block k (by omega) (fun hf => by have := hF k hf; omega)⟩
/-- a chain of steps below a number -/
theorem Keep.after {F : Nat → Prop} {a b c : World} (h : Below a.heap.size a b) (k : Keep F b c) (hF : ∀ i, F i → a.heap.size ≤ i) : Below a.heap.size a c :=
  h.trans (k.below h.size hF)
theorem Keep.heap {F : Nat → Prop} {w w' : World} (h : Keep F w w') {k : Nat} {o : Obj} (hk : w.heap[k]? = some o) (hF : ¬ F k) : w'.heap[k]? = some o :=
  (h.block k (lt_of_block hk) hF).trans hk
theorem Keep.cell {F : Nat → Prop} {w w' : World} (h : Keep F w w') {p : Addr} (hp : p.block < w.heap.size) (hF : ¬ F p.block) : w'.cell? p = w.cell? p := World.cell?_of_block (w := w) (h.block p.block hp hF)
theorem Keep.frozen {F : Nat → Prop} {w w' : World} (h : Keep F w w') {p : Addr} (hp : p.block < w.heap.size) (hF : ¬ F p.block) : w'.frozen? p = w.frozen? p := World.frozen?_of_block (w := w) (h.block p.block hp hF)
theorem below_heap {B : Nat} {w w' : World} (h : Below B w w') {k : Nat} {o : Obj} (hk : w.heap[k]? = some o) (hB : k < B) : w'.heap[k]? = some o := (h.block k hB).trans hk

/-- block b is a row of these values -/
def RowAt (b : Nat) (T : TypeId) (vs : List Value) (w : World) : Prop := w.heap[b]? = some (.cells vs.toArray T (0, 0))
theorem RowAt.lt {b : Nat} {T : TypeId} {vs : List Value} {w : World} (h : RowAt b T vs w) : b < w.heap.size := lt_of_block h
theorem RowAt.cell {b : Nat} {T : TypeId} {vs : List Value} {w : World} (h : RowAt b T vs w) (i : Nat) : w.cell? ⟨b, i, none⟩ = vs[i]? := by
  unfold RowAt at h; simp [World.cell?, h]
theorem RowAt.frozen {b : Nat} {T : TypeId} {vs : List Value} {w : World} (h : RowAt b T vs w) (i : Nat) : w.frozen? ⟨b, i, none⟩ = false := by
  unfold RowAt at h; simp [World.frozen?, h]
theorem RowAt.drewN {b : Nat} {T : TypeId} {vs : List Value} {w : World} (h : RowAt b T vs w) (n : Nat) : RowAt b T vs (w.drewN n) := h
theorem RowAt.alloc {b : Nat} {T : TypeId} {vs : List Value} {w : World} (h : RowAt b T vs w) (o : Obj) : RowAt b T vs (w.alloc o) :=
  (Below.heap_alloc w o b h.lt).trans h
theorem RowAt.keep {F : Nat → Prop} {b : Nat} {T : TypeId} {vs : List Value} {w w' : World} (h : RowAt b T vs w) (k : Keep F w w') (hF : ¬ F b) : RowAt b T vs w' := k.heap h hF
theorem RowAt.below {B b : Nat} {T : TypeId} {vs : List Value} {w w' : World} (h : RowAt b T vs w) (k : Below B w w') (hB : b < B) : RowAt b T vs w' := below_heap k h hB
theorem RowAt.set {b : Nat} {T : TypeId} {vs : List Value} {w : World} (h : RowAt b T vs w) (i : Nat) (v : Value) : RowAt b T (vs.set i v) (w.setCell ⟨b, i, none⟩ v) := by
  have hlt := h.lt
  have h' : w.heap[b] = .cells vs.toArray T (0, 0) := by unfold RowAt at h; simpa [Array.getElem?_eq_getElem hlt] using h
  show (w.heap.modify b _)[b]? = _
  rw [Array.getElem?_eq_getElem (by simpa using hlt), Array.getElem_modify_self, h']
  simp
theorem RowAt.set_other {b : Nat} {T : TypeId} {vs : List Value} {w : World} (h : RowAt b T vs w) {p : Addr} (hp : p.block ≠ b) (v : Value) : RowAt b T vs (w.setCell p v) :=
  (Below.heap_setCell w p v b (fun e => hp e.symm)).trans h
theorem RowAt.new (w : World) (T : TypeId) (vs : List Value) : RowAt w.heap.size T vs (w.alloc (.cells vs.toArray T)) := heap_alloc_new w _
/-- a slice over a whole block of numbers -/
theorem RdI.of_rowAt {k : IntKind} {g : Nat} {T : TypeId} {zs : List Int} {w : World} (h : RowAt g T (zs.map (Value.int k)) w) (hm : zs.length ≤ maxLen) : RdI k w (some ⟨g, 0, none⟩) zs.length zs.length zs :=
  ⟨rfl, Nat.le_refl _, hm, fun h => (by cases h), fun i hi => ⟨g, 0, rfl, by rw [Nat.zero_add, h.cell, List.getElem?_map, List.getElem?_eq_getElem hi]; simp [hi]⟩⟩
end Go.Proofs.YtajnfkmkombajaaDoor
