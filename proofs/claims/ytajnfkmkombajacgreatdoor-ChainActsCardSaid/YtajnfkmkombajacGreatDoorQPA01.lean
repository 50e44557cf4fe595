/-
  Small words used in all walks: a slice that reads as numbers; what is kept below the heap's size. No program in sight.
  The sentinels of package api: what an error's number is as a value, and that the listed ones lie where the program's text lays them.
  From a row's cell on listed sentinels to what the walks ask: the errors' variables hold them.
  What a call leaves as it was, but for some blocks; blocks of numbers. No program in sight.
  A slice of structs that came in: it reads as a list of plain data. (The first lemma is a block of the guide's page on structs, to be copied.)
  Plain: what package part reckons. No program in sight.
  Purses as plain numbers: what each call of package purse answers and leaves. No program in sight.
-/
import Derived.WalkKit
import Derived.ProofKit
import Derived.WalkSmall
import Derived.Lib.Hide
import Derived.Maps.AppendAt
import Derived.Deep.AppendLies
import Derived.Deep.RegionWith
import Derived.Test.YtajnfkmkombajacGreatDoorProg
import Derived.LaidLaws
import Derived.Stop.LaidErr
import Derived.KernelRfl
import Derived.OneCell
import Derived.Deep.Slices
import Derived.Deep.Fields
import Derived.ChangeSame
import Derived.OpenShut
import Derived.Sort.WalkA
set_option linter.unusedVariables false
set_option linter.unusedSimpArgs false
set_option linter.unusedVariables false
namespace Go.Proofs.YtajnfkmkombajacGreatDoor
open Go.RowKit

/-- The slice value '.slice ao len cap' reads, in w, as the numbers zs of kind k. -/
structure RdI (k : IntKind) (w : World) (ao : Option Addr) (len cap : Nat) (zs : List Int) : Prop where
  size : zs.length = len
  lc : len ≤ cap
  cm : cap ≤ maxLen
  nul : ao = none → cap = 0
  cells : ∀ i, i < len → ∃ b off, ao = some ⟨b, off, none⟩ ∧ w.cell? ⟨b, off + i, none⟩ = some (.int k (zs.getD i 0))

theorem RdI.nil (k : IntKind) (w : World) : RdI k w none 0 0 [] := ⟨rfl, Nat.le_refl _, by simp, fun _ => rfl, fun i h => by omega⟩

theorem RdI.of_row {k : IntKind} {w : World} {a : Option Addr} {len cap : Nat} {zs : List Int} (h : (a = none ∧ len = 0 ∧ cap = 0 ∧ zs = []) ∨
    ∃ x, a = some x ∧ len ≤ cap ∧ cap ≤ maxLen ∧ zs.length = cap ∧ (∀ i, i < zs.length → w.cell? (x.add i) = some (.int k (zs.getD i 0))) ∧ ∀ n ∈ zs, (Lit.int k n).wf = true) : RdI k w a len cap (zs.take len) := by
  rcases h with ⟨rfl, rfl, rfl, rfl⟩ | ⟨x, rfl, hl, hm, hz, hc, _⟩
  · exact RdI.nil k w
  · refine ⟨by rw [List.length_take]; omega, hl, hm, fun h => (by cases h), fun i hi => ?_⟩
    have hci := hc i (by omega)
    have hs : (x.add i).spot = none := World.cell?_spot hci
    obtain ⟨b, off, spot⟩ := x
    have hs0 : spot = none := by
      by_cases h0 : i = 0
      · subst h0; simpa [Addr.add] using hs
      · have h0c := World.cell?_spot (hc 0 (by omega)); simpa [Addr.add] using h0c
    subst hs0
    refine ⟨b, off, rfl, ?_⟩
    have e : (⟨b, off, none⟩ : Addr).add i = ⟨b, off + i, none⟩ := by unfold Addr.add; split <;> simp_all
    rw [e] at hci
    rw [hci]; simp [List.getD_eq_getElem?_getD, hi]

theorem RdI.split {k : IntKind} {w : World} {ao : Option Addr} {len cap : Nat} {zs : List Int} (h : RdI k w ao len cap zs) :
    (len = 0 ∧ zs = []) ∨ (0 < len ∧ ∃ b off, ao = some ⟨b, off, none⟩ ∧ b < w.heap.size ∧ ∀ i, i < len → w.cell? ⟨b, off + i, none⟩ = some (.int k (zs.getD i 0))) := by
  rcases Nat.eq_zero_or_pos len with h0 | h0
  · exact .inl ⟨h0, List.eq_nil_of_length_eq_zero (by rw [h.size, h0])⟩
  · obtain ⟨b, off, ha, hc⟩ := h.cells 0 h0
    refine .inr ⟨h0, b, off, ha, World.block_lt_of_cell? w _ hc, fun i hi => ?_⟩
    obtain ⟨b', off', ha', hc'⟩ := h.cells i hi
    rw [ha] at ha'; cases ha'; exact hc'

theorem RdI.below {k : IntKind} {w w' : World} {ao : Option Addr} {len cap : Nat} {zs : List Int} (h : RdI k w ao len cap zs) (hb : Below w.heap.size w w') : RdI k w' ao len cap zs := by
  refine ⟨h.size, h.lc, h.cm, h.nul, fun i hi => ?_⟩
  obtain ⟨b, off, ha, hc⟩ := h.cells i hi
  exact ⟨b, off, ha, by rw [hb.cell (p := ⟨b, off + i, none⟩) (World.block_lt_of_cell? w _ hc)]; exact hc⟩

theorem RdI.of_own {k : IntKind} {w : World} {base e : Nat} {ao : Option Addr} {len cap : Nat} {zs : List Int} (h : w.ownsRow base e 1 (.slice ao len cap) len (zs.map (Value.int k))) : RdI k w ao len cap zs := by
  obtain ⟨h1, h2⟩ := h
  have hl : zs.length = len := by simpa using h1
  rcases h2 with ⟨hv, hn⟩ | ⟨g, cap', cur, hv, hg, hh, hnc, hcm, hcs, ht⟩
  · cases hv
    exact ⟨hl, Nat.le_refl _, by simp, fun _ => rfl, fun i h => by omega⟩
  · cases hv
    refine ⟨hl, hnc, hcm, fun h => (by cases h), fun i hi => ⟨g, 0, rfl, ?_⟩⟩
    have hi' : i < zs.length := by omega
    have : cur[i]? = some (.int k (zs.getD i 0)) := by
      have h3 : (cur.toList.take (len * 1))[i]? = some (.int k (zs.getD i 0)) := by
        rw [ht]; simp [hi']
      rw [List.getElem?_take] at h3
      split at h3
      · simpa using h3
      · cases h3
    simp [World.cell?, hh, this]

theorem own_cells {w : World} {base e n : Nat} {ao : Option Addr} {cap : Nat} {xs : List Value} (h : w.ownsRow base e 1 (.slice ao n cap) n xs) :
    ∃ g : Nat, 0 < n → ao = some ⟨g, 0, none⟩ ∧ base ≤ g ∧ g < w.heap.size ∧ n ≤ cap ∧ ∀ q, q < n → w.cell? ⟨g, q, none⟩ = xs[q]? := by
  rcases h.2 with ⟨hv, hn⟩ | ⟨g, cap', cur, hv, hg, hh, hnc, hcm, hcs, ht⟩
  · exact ⟨0, fun h0 => by omega⟩
  · cases hv
    refine ⟨g, fun _ => ⟨rfl, hg, (Array.getElem?_eq_some_iff.1 hh).1, hnc, fun q hq => ?_⟩⟩
    rw [← ht, List.getElem?_take, if_pos (by omega)]
    simp [World.cell?, hh]

theorem set_other {w : World} {b o b' o' : Nat} {v : Value} (h : b ≠ b') : (w.setCell ⟨b, o, none⟩ v).cell? ⟨b', o', none⟩ = w.cell? ⟨b', o', none⟩ :=
  World.cell?_setCell_other _ _ _ _ (fun e => h (congrArg Addr.block e))

theorem cell_one_at (w : World) (x : Value) (t g : Nat) (hg : g = w.heap.size) : ∀ j u, [x][j]? = some u → (w.alloc (.cells #[x] t)).cell? ((⟨g, 0, none⟩ : Addr).add j) = some u := by
  subst hg; exact cell_one_new w x t

theorem own_shape {w : World} {base e size n : Nat} {v : Value} {xs : List Value} (h : w.ownsRow base e size v n xs) : ∃ ao cap, v = .slice ao n cap := by
  rcases h.2 with ⟨hv, hn⟩ | ⟨g, cap, cur, hv, _⟩
  · exact ⟨none, 0, by rw [hv, hn]⟩
  · exact ⟨some ⟨g, 0, none⟩, cap, hv⟩

theorem own_block {w : World} {base e size n : Nat} {v : Value} {xs : List Value} (h : w.ownsRow base e size v n xs) {k : Nat} (hk : k < base) : some k ≠ v.ownBlock := by
  rcases h.2 with ⟨hv, _⟩ | ⟨g, cap, cur, hv, hg, _⟩
  · rw [hv]; intro e; cases e
  · rw [hv]; intro e; simp [Value.ownBlock] at e; omega

/-- l[:h] of a slice that reads as numbers -/
theorem RdI.hi {k : IntKind} {P : Program} {t : TypeId} (ht : P.underlying t = some (.slice (P.elem t))) (hsz : ∀ wx : World, (sizeOf (P.elem t)).run P wx = .ok 1 wx) {w : World} {ao : Option Addr} {len cap : Nat} {zs : List Int} (R : RdI k w ao len cap zs) (h : Nat) (hh : h ≤ len) (kh : IntKind) :
    (∀ wx : World, (Instr.slice t (.slice ao len cap) none (some (.int kh h)) none).run P wx = .ok (.slice ao h cap) wx) ∧ RdI k w ao h cap (zs.take h) := by
  have hc := R.lc
  refine ⟨fun wx => ?_, ⟨by rw [List.length_take, R.size]; omega, by omega, R.cm, R.nul, fun i hi => ?_⟩⟩
  · rw [run_slice_h wx t ao len cap ht kh h (by omega) (by omega), hsz]
    simp only [Result.andThen, sliced, Int.toNat_natCast, Nat.zero_mul, Nat.sub_zero]
    congr 2
    split
    · rfl
    · cases ao <;> simp [Addr.add]
  · obtain ⟨b, off, ha, hcl⟩ := R.cells i (by omega)
    exact ⟨b, off, ha, by rw [hcl]; simp [List.getD_eq_getElem?_getD, hi]⟩

/-- l[lo:] of a slice that reads as numbers -/
theorem RdI.lo {k : IntKind} {P : Program} {t : TypeId} (ht : P.underlying t = some (.slice (P.elem t))) (hsz : ∀ wx : World, (sizeOf (P.elem t)).run P wx = .ok 1 wx) {w : World} {ao : Option Addr} {len cap : Nat} {zs : List Int} (R : RdI k w ao len cap zs) (l : Nat) (hl : l ≤ len) (kl : IntKind) :
    ∃ a', (∀ wx : World, (Instr.slice t (.slice ao len cap) (some (.int kl l)) none none).run P wx = .ok (.slice a' (len - l) (cap - l)) wx) ∧ RdI k w a' (len - l) (cap - l) (zs.drop l) := by
  have hc := R.lc
  have hm := R.cm
  refine ⟨if cap = l then ao else ao.map (·.add (l * 1)), fun wx => ?_, ⟨by rw [List.length_drop, R.size], by omega, by omega, fun h => ?_, fun i hi => ?_⟩⟩
  · rw [run_slice_l wx t ao len cap ht kl l (by omega) (by omega), hsz]
    simp only [Result.andThen, sliced, Int.toNat_natCast]
  · split at h
    · have := R.nul h; omega
    · cases ao with
      | none => have := R.nul rfl; omega
      | some x => cases h
  · obtain ⟨b, off, ha, hcl⟩ := R.cells (l + i) (by omega)
    refine ⟨b, off + l, ?_, ?_⟩
    · rw [if_neg (by omega), ha]
      simp only [Option.map_some, Nat.mul_one, Addr.add]
      split
      · simp_all
      · rfl
    · rw [Nat.add_assoc, hcl]; simp [List.getD_eq_getElem?_getD, List.getElem?_drop]

theorem _root_.Go.RowKit.Below.drewN {B : Nat} {a w : World} (h : Below B a w) (n : Nat) : Below B a (w.drewN n) := ⟨h.os, h.tape, h.output, h.size, h.block⟩
theorem btrans {a b c : World} (h : Below a.heap.size a b) (k : Below b.heap.size b c) : Below a.heap.size a c := h.trans (k.mono h.size)

theorem below_of {W w' : World} (h : Below W.heap.size W w') : (∀ b o, b < W.heap.size → w'.cell? ⟨b, o, none⟩ = W.cell? ⟨b, o, none⟩) ∧ (∀ b o, b < W.heap.size → w'.frozen? ⟨b, o, none⟩ = W.frozen? ⟨b, o, none⟩) :=
  ⟨fun b o hb => h.cell (p := ⟨b, o, none⟩) hb, fun b o hb => h.frozen (p := ⟨b, o, none⟩) hb⟩
end Go.Proofs.YtajnfkmkombajacGreatDoor
namespace Go.Proofs.YtajnfkmkombajacGreatDoor
open Go.RowKit

/-- where the variable of error number c lies -/
def gE : Nat → Nat
  | 1 => 5
  | 2 => 0
  | 3 => 4
  | 4 => 3
  | 5 => 2
  | 6 => 6
  | 7 => 7
  | 8 => 8
  | 9 => 1
  | 10 => 9
  | _ => 0

/-- error number c as a value: 0 is nil -/
def ev (A : Nat → Addr) (c : Nat) : Value := if c = 0 then .nilIface else .iface 386 (.pointer (some (A c)))
theorem ev_nil (A : Nat → Addr) : ev A 0 = .nilIface := rfl
theorem ev_some (A : Nat → Addr) {c : Nat} (h : c ≠ 0) : ev A c = .iface 386 (.pointer (some (A c))) := if_neg h

/-- the variables of the listed errors hold them -/
structure Errs (A : Nat → Addr) (S : List Nat) (w : World) : Prop where
  cell : ∀ c, c ∈ S → w.cell? ⟨gE c, 0, none⟩ = some (ev A c)

theorem Errs.below {A : Nat → Addr} {S : List Nat} {w w' : World} (h : Errs A S w) (hb : Below w.heap.size w w') : Errs A S w' :=
  ⟨fun c hc => by rw [hb.cell (p := ⟨gE c, 0, none⟩) (World.block_lt_of_cell? w _ (h.cell c hc))]; exact h.cell c hc⟩
theorem Errs.drewN {A : Nat → Addr} {S : List Nat} {w : World} (h : Errs A S w) (n : Nat) : Errs A S (w.drewN n) := ⟨fun c hc => h.cell c hc⟩

/-- only the draws have gone on -/
def Dr (w w' : World) : Prop := ∃ n, w.drewN n = w'
theorem Dr.refl (w : World) : Dr w w := ⟨0, rfl⟩
theorem Dr.trans {a b c : World} (h : Dr a b) (k : Dr b c) : Dr a c := by
  obtain ⟨n, rfl⟩ := h; obtain ⟨m, rfl⟩ := k; exact ⟨n + m, by simp [World.drewN, Nat.add_assoc]⟩
theorem Dr.drew (w : World) : Dr w w.drew := ⟨1, rfl⟩
theorem Dr.below {w w' : World} (h : Dr w w') : Below w.heap.size w w' := by
  obtain ⟨n, rfl⟩ := h; exact ⟨rfl, rfl, rfl, Nat.le_refl _, fun _ _ => rfl⟩
end Go.Proofs.YtajnfkmkombajacGreatDoor
namespace Go.Proofs.YtajnfkmkombajacGreatDoor
open Go.RowKit Go.ChangeShapes

theorem Tryz.star : "*" ++ "errors.errorString" = "*errors.errorString" := by decide +kernel
theorem Tryz.rowErr (u : TypeId) (h : Tryz.prog.typeName? 3 u = some "*errors.errorString") : u = 386 :=
  typeName_ptr_named (P := Tryz.prog) (nm := "errors.errorString") (by rw [Tryz.star]; kernel_rfl) (by kernel_rfl) (by decide) u (by rw [Tryz.star]; exact h)
theorem Tryz.cellsErr : Tryz.prog.cellsOf 388 = 1 := by kernel_rfl
theorem Tryz.cellsStr : Tryz.prog.cellsOf 9 = 1 := by kernel_rfl

/-- the listed variables are the sentinels of these numbers -/
def LaidAs : List Nat → List (String × DataW Unit) → Prop
  | [], [] => True
  | c :: cs, x :: r => (c ≠ 0 ∧ c ∉ cs ∧ Tryz.prog.globalNamed x.1 = some (gE c) ∧ (Tryz.prog.globals[gE c]?).map (·.type) = some 51 ∧ ∃ text, x.2 = .iface "*errors.errorString" (.ptr (.agg [.lit (.string text)]))) ∧ LaidAs cs r
  | _, _ => False

theorem errs_of_laid {W : World} : ∀ (cs : List Nat) (l : List (String × DataW Unit)), LaidAs cs l → laidMet Tryz.prog l W → ∃ A, Errs A cs W
  | [], [], _, _ => ⟨fun _ => ⟨0, 0, none⟩, ⟨fun c hc => by cases hc⟩⟩
  | c :: cs, (n, d) :: r, ⟨⟨h0, h1, h2, h3, text, h4⟩, hr⟩, hL => by
    obtain ⟨A, hA⟩ := errs_of_laid cs r hr hL.tail
    simp only at h4 h2
    subst h4
    obtain ⟨a, s, hv, _, _, _⟩ := laid_sentinel hL h2 h3 Tryz.underlying51 Tryz.rowErr Tryz.underlying386 Tryz.underlying388 rfl rfl Tryz.underlying9 Tryz.cellsErr Tryz.cellsStr
    refine ⟨fun k => if k = c then a else A k, ⟨fun k hk => ?_⟩⟩
    by_cases hkc : k = c
    · subst hkc
      have := World.var?_cell h2 hv 0
      rw [ev_some _ h0]
      simpa using this
    · have hk' : k ∈ cs := by simpa [hkc] using hk
      have := hA.cell k hk'
      rw [this]; simp [ev, hkc]
  | [], _ :: _, h, _ => h.elim
  | _ :: _, [], h, _ => h.elim
end Go.Proofs.YtajnfkmkombajacGreatDoor
namespace Go.Proofs.YtajnfkmkombajacGreatDoor
open Go.RowKit

/-- all blocks that were there are as they were, but for those of F; new ones may have come -/
structure Keep (F : Nat → Prop) (w w' : World) : Prop where
  os : w'.os = w.os
  tape : w'.tape = w.tape
  output : w'.output = w.output
  size : w.heap.size ≤ w'.heap.size
  block : ∀ k, k < w.heap.size → ¬ F k → w'.heap[k]? = w.heap[k]?

theorem Keep.refl (F : Nat → Prop) (w : World) : Keep F w w := ⟨rfl, rfl, rfl, Nat.le_refl _, fun _ _ _ => rfl⟩
theorem Keep.trans {F : Nat → Prop} {a b c : World} (h : Keep F a b) (k : Keep F b c) : Keep F a c :=
  ⟨k.os.trans h.os, k.tape.trans h.tape, k.output.trans h.output, Nat.le_trans h.size k.size, fun i hi hF => (k.block i (Nat.lt_of_lt_of_le hi h.size) hF).trans (h.block i hi hF)⟩
/-- the second step may write what is new since the first one's beginning -/
theorem Keep.andThen {F G : Nat → Prop} {a b c : World} (h : Keep F a b) (k : Keep G b c) (hG : ∀ i, G i → F i ∨ a.heap.size ≤ i) : Keep F a c :=
  ⟨k.os.trans h.os, k.tape.trans h.tape, k.output.trans h.output, Nat.le_trans h.size k.size, fun i hi hF => (k.block i (Nat.lt_of_lt_of_le hi h.size) (fun hg => (hG i hg).elim hF (by omega))).trans (h.block i hi hF)⟩
theorem Keep.mono {F G : Nat → Prop} {w w' : World} (h : Keep F w w') (hF : ∀ k, F k → G k) : Keep G w w' := ⟨h.os, h.tape, h.output, h.size, fun k hk hg => h.block k hk (fun hf => hg (hF k hf))⟩
theorem Keep.drew {F : Nat → Prop} {a w : World} (h : Keep F a w) : Keep F a w.drew := ⟨h.os, h.tape, h.output, h.size, h.block⟩
theorem Keep.drewN {F : Nat → Prop} {a w : World} (h : Keep F a w) (n : Nat) : Keep F a (w.drewN n) := ⟨h.os, h.tape, h.output, h.size, h.block⟩
theorem Keep.alloc {F : Nat → Prop} {a w : World} (h : Keep F a w) (o : Obj) : Keep F a (w.alloc o) :=
  ⟨h.os, h.tape, h.output, by have := h.size; simp; omega, fun k hk hF => by rw [Below.heap_alloc _ _ _ (Nat.lt_of_lt_of_le hk h.size)]; exact h.block k hk hF⟩
theorem Keep.setCell {F : Nat → Prop} {a w : World} (h : Keep F a w) {p : Addr} (hp : F p.block ∨ a.heap.size ≤ p.block) (u : Value) : Keep F a (w.setCell p u) :=
  ⟨h.os, h.tape, h.output, by have := h.size; simp [World.setCell]; exact this, fun k hk hF => by
    rw [Below.heap_setCell _ _ _ _ (by rintro rfl; exact hp.elim hF (by omega))]; exact h.block k hk hF⟩
/-- a store into the one block -/
theorem Keep.put {b o : Nat} {a w : World} (h : Keep (· = b) a w) (u : Value) : Keep (· = b) a (w.setCell ⟨b, o, none⟩ u) := h.setCell (p := ⟨b, o, none⟩) (.inl rfl) u
theorem Keep.grown {F : Nat → Prop} {a w w' : World} {row : Option Nat} (h : Keep F a w) (hg : w.grownBy w' row) (hr : ∀ k, row = some k → F k ∨ a.heap.size ≤ k) : Keep F a w' :=
  ⟨hg.os.trans h.os, hg.tape.trans h.tape, hg.output.trans h.output, Nat.le_trans h.size hg.size, fun k hk hF =>
    (hg.block k (Nat.lt_of_lt_of_le hk h.size) (fun e => (hr k e.symm).elim hF (by omega))).trans (h.block k hk hF)⟩
theorem Keep.of_below {F : Nat → Prop} {w w' : World} (h : Below w.heap.size w w') : Keep F w w' := ⟨h.os, h.tape, h.output, h.size, fun k hk _ => h.block k hk⟩
theorem Keep.below {F : Nat → Prop} {B : Nat} {w w' : World} (h : Keep F w w') (hB : B ≤ w.heap.size) (hF : ∀ k, F k → B ≤ k) : Below B w w' :=
  ⟨h.os, h.tape, h.output, h.size, fun k hk => h.block k (by omega) (fun hf => by have := hF k hf; omega)⟩
/-- a chain of steps below a number -/
theorem Keep.after {F : Nat → Prop} {a b c : World} (h : Below a.heap.size a b) (k : Keep F b c) (hF : ∀ i, F i → a.heap.size ≤ i) : Below a.heap.size a c :=
  h.trans (k.below h.size hF)
theorem Keep.heap {F : Nat → Prop} {w w' : World} (h : Keep F w w') {k : Nat} {o : Obj} (hk : w.heap[k]? = some o) (hF : ¬ F k) : w'.heap[k]? = some o :=
  (h.block k (lt_of_block hk) hF).trans hk
theorem Keep.cell {F : Nat → Prop} {w w' : World} (h : Keep F w w') {p : Addr} (hp : p.block < w.heap.size) (hF : ¬ F p.block) : w'.cell? p = w.cell? p := World.cell?_of_block (w := w) (h.block p.block hp hF)
theorem Keep.frozen {F : Nat → Prop} {w w' : World} (h : Keep F w w') {p : Addr} (hp : p.block < w.heap.size) (hF : ¬ F p.block) : w'.frozen? p = w.frozen? p := World.frozen?_of_block (w := w) (h.block p.block hp hF)
theorem below_heap {B : Nat} {w w' : World} (h : Below B w w') {k : Nat} {o : Obj} (hk : w.heap[k]? = some o) (hB : k < B) : w'.heap[k]? = some o := (h.block k hB).trans hk

/-- block b is a row of these values -/
def RowAt (b : Nat) (T : TypeId) (vs : List Value) (w : World) : Prop := w.heap[b]? = some (.cells vs.toArray T (0, 0))
theorem RowAt.lt {b : Nat} {T : TypeId} {vs : List Value} {w : World} (h : RowAt b T vs w) : b < w.heap.size := lt_of_block h
theorem RowAt.cell {b : Nat} {T : TypeId} {vs : List Value} {w : World} (h : RowAt b T vs w) (i : Nat) : w.cell? ⟨b, i, none⟩ = vs[i]? := by
  unfold RowAt at h; simp [World.cell?, h]
theorem RowAt.frozen {b : Nat} {T : TypeId} {vs : List Value} {w : World} (h : RowAt b T vs w) (i : Nat) : w.frozen? ⟨b, i, none⟩ = false := by
  unfold RowAt at h; simp [World.frozen?, h]
theorem RowAt.drewN {b : Nat} {T : TypeId} {vs : List Value} {w : World} (h : RowAt b T vs w) (n : Nat) : RowAt b T vs (w.drewN n) := h
theorem RowAt.alloc {b : Nat} {T : TypeId} {vs : List Value} {w : World} (h : RowAt b T vs w) (o : Obj) : RowAt b T vs (w.alloc o) :=
  (Below.heap_alloc w o b h.lt).trans h
theorem RowAt.keep {F : Nat → Prop} {b : Nat} {T : TypeId} {vs : List Value} {w w' : World} (h : RowAt b T vs w) (k : Keep F w w') (hF : ¬ F b) : RowAt b T vs w' := k.heap h hF
theorem RowAt.below {B b : Nat} {T : TypeId} {vs : List Value} {w w' : World} (h : RowAt b T vs w) (k : Below B w w') (hB : b < B) : RowAt b T vs w' := below_heap k h hB
theorem RowAt.set {b : Nat} {T : TypeId} {vs : List Value} {w : World} (h : RowAt b T vs w) (i : Nat) (v : Value) : RowAt b T (vs.set i v) (w.setCell ⟨b, i, none⟩ v) := by
  have hlt := h.lt
  have h' : w.heap[b] = .cells vs.toArray T (0, 0) := by unfold RowAt at h; simpa [Array.getElem?_eq_getElem hlt] using h
  show (w.heap.modify b _)[b]? = _
  rw [Array.getElem?_eq_getElem (by simpa using hlt), Array.getElem_modify_self, h']
  simp
theorem RowAt.set_other {b : Nat} {T : TypeId} {vs : List Value} {w : World} (h : RowAt b T vs w) {p : Addr} (hp : p.block ≠ b) (v : Value) : RowAt b T vs (w.setCell p v) :=
  (Below.heap_setCell w p v b (fun e => hp e.symm)).trans h
theorem RowAt.new (w : World) (T : TypeId) (vs : List Value) : RowAt w.heap.size T vs (w.alloc (.cells vs.toArray T)) := heap_alloc_new w _
/-- a slice over a whole block of numbers -/
theorem RdI.of_rowAt {k : IntKind} {g : Nat} {T : TypeId} {zs : List Int} {w : World} (h : RowAt g T (zs.map (Value.int k)) w) (hm : zs.length ≤ maxLen) : RdI k w (some ⟨g, 0, none⟩) zs.length zs.length zs :=
  ⟨rfl, Nat.le_refl _, hm, fun h => (by cases h), fun i hi => ⟨g, 0, rfl, by rw [Nat.zero_add, h.cell, List.getElem?_map, List.getElem?_eq_getElem hi]; simp [hi]⟩⟩
end Go.Proofs.YtajnfkmkombajacGreatDoor
namespace Go.Proofs.YtajnfkmkombajacGreatDoor
open Go.RowKit Go.ChangeShapes Go.WideShapes Go.Deep

section
variable {H : Type} {enc : TypeId × Value → H} {P : Program} {w : World} {base : Nat} {spare : Nat → Bool} {held : Bool}
theorem open_slice_fields {t e : TypeId} {fs : Array Field} {fuel : Nat} {cs : List Value} {x : DataW H × List MemPlace} (ht : P.underlying t = some (.slice e)) (he : P.underlying e = some (.struct fs))
    (hone : oneCellFields P fs = true) (hC : P.cellsOf e = fs.size) (h : DataW.trod enc P w base spare held fuel t cs = some x) :
    (cs = [.slice none 0 0] ∧ x = (.nil, [])) ∨
    ∃ (a : Addr) (len cap m : Nat) (D : Nat → DataW H) (Pl : Nat → List MemPlace), cs = [.slice (some a) len cap] ∧ base ≤ a.block ∧ len ≤ cap ∧ cap ≤ maxLen ∧ m = (if spare a.block then cap else len) ∧
      x = (.slice ((List.range len).map D) ((List.range (m - len)).map fun j => D (len + j)), MemPlace.row a (m * fs.size) ++ (List.range m).flatMap Pl) ∧
      ∀ i, i < m → ∃ (ys : List (DataW H × List MemPlace)) (n : Nat), D i = .agg (ys.map (·.1)) ∧ Pl i = ys.flatMap (·.2) ∧ ys.length = fs.size ∧
        ∀ (j : Nat) (f : Field), fs[j]? = some f → ∃ (v : Value) (y : DataW H × List MemPlace), w.cell? (a.add (i * fs.size + j)) = some v ∧ ys[j]? = some y ∧ DataW.trod enc P w base spare held n f.type [v] = some y := by
  rcases open_slice ht h with h0 | ⟨a, len, cap, m, n, D, Pl, hcs, hb, hl, hm, hmm, hx, hi⟩
  · exact .inl h0
  · refine .inr ⟨a, len, cap, m, D, Pl, hcs, hb, hl, hm, hmm, by rw [hC] at hx; exact hx, fun i him => ?_⟩
    obtain ⟨cs', hc, ht'⟩ := hi i him
    rw [hC] at hc
    obtain ⟨ys, n', hn', hy, hlen, hyl, hf⟩ := DataW.trod_struct he ht'
    obtain ⟨_, hcl, hat⟩ := World.cells?_some hc
    simp only [Prod.mk.injEq] at hy
    refine ⟨ys, n', hy.1, hy.2, hyl, fun j f hj => ?_⟩
    obtain ⟨ho, hk⟩ := hone_of hone j f hj
    have hjl : j < fs.size := (Array.getElem?_eq_some_iff.1 hj).1
    have hcell := hat j hjl
    have hv : cs'[j]? = some (cs'[j]'(by omega)) := List.getElem?_eq_getElem (by omega)
    have h1 := hf j f hj
    rw [ho, hk] at h1
    have hone' : (cs'.drop j).take 1 = [cs'[j]'(by omega)] := by
      rw [List.drop_eq_getElem_cons (by omega)]
      rfl
    rw [hone'] at h1
    have hys : ys[j]? = some (ys[j]'(by omega)) := List.getElem?_eq_getElem (by omega)
    refine ⟨_, _, ?_, hys, h1.trans hys⟩
    rw [← Go.Deep.add_add, hcell, hv]
end

/-- the slice '.slice ao len cap' reads, in w, as the data l, each of C cells -/
structure RdR {α : Type} (enc : α → List Value) (C : Nat) (w : World) (ao : Option Addr) (len cap : Nat) (l : List α) : Prop where
  size : l.length = len
  lc : len ≤ cap
  cm : cap ≤ maxLen
  nul : ao = none → cap = 0
  cells : ∀ i x, l[i]? = some x → ∃ b off, ao = some ⟨b, off, none⟩ ∧ b < w.heap.size ∧ ∀ j, j < C → w.cell? ⟨b, off + i * C + j, none⟩ = (enc x)[j]?

section
variable {α : Type} {enc : α → List Value} {C : Nat} {w w' : World} {ao : Option Addr} {len cap : Nat} {l : List α}

theorem RdR.below (h : RdR enc C w ao len cap l) (hb : Below w.heap.size w w') : RdR enc C w' ao len cap l := by
  refine ⟨h.size, h.lc, h.cm, h.nul, fun i x hx => ?_⟩
  obtain ⟨b, off, ha, hl, hc⟩ := h.cells i x hx
  exact ⟨b, off, ha, Nat.lt_of_lt_of_le hl hb.size, fun j hj => by rw [hb.cell (p := ⟨b, _, none⟩) hl]; exact hc j hj⟩

theorem list_choose {α : Type} {Q : Nat → α → Prop} : ∀ n, (∀ i, i < n → ∃ x, Q i x) → ∃ l : List α, l.length = n ∧ ∀ i x, l[i]? = some x → Q i x
  | 0, _ => ⟨[], rfl, fun i x h => by simp at h⟩
  | n + 1, h => by
    obtain ⟨l, hl, hq⟩ := list_choose n (fun i hi => h i (by omega))
    obtain ⟨y, hy⟩ := h n (by omega)
    refine ⟨l ++ [y], by simp [hl], fun i x hx => ?_⟩
    rw [List.getElem?_append] at hx
    split at hx
    · exact hq i x hx
    · next hge =>
      have : i - l.length = 0 := by
        rcases Nat.eq_zero_or_pos (i - l.length) with h0 | h0
        · exact h0
        · rw [List.getElem?_eq_none (by simp; omega)] at hx; cases hx
      rw [this] at hx
      cases hx
      have : i = n := by omega
      subst this; exact hy

/-- out of the cells -/
theorem RdR.of_cells {a : Addr} {Q : α → Prop} (hC : 0 < C) (hl : len ≤ cap) (hm : cap ≤ maxLen)
    (h : ∀ i, i < len → ∃ x, (∀ j, j < C → w.cell? (a.add (i * C + j)) = (enc x)[j]?) ∧ C ≤ (enc x).length ∧ Q x) : ∃ l, RdR enc C w (some a) len cap l ∧ ∀ x ∈ l, Q x := by
  obtain ⟨l, hlen, hq⟩ := list_choose len h
  refine ⟨l, ⟨hlen, hl, hm, fun h => (by cases h), fun i x hx => ?_⟩, fun x hx => ?_⟩
  · obtain ⟨h1, h2, _⟩ := hq i x hx
    have h00 := h1 0 hC
    rw [List.getElem?_eq_getElem (show 0 < (enc x).length by omega)] at h00
    have hs : (a.add (i * C + 0)).spot = none := World.cell?_spot h00
    have hblk := World.block_lt_of_cell? w _ h00
    obtain ⟨b, off, spot⟩ := a
    have hs0 : spot = none := by
      by_cases h0 : i * C = 0
      · rw [h0] at hs; simpa [Addr.add] using hs
      · have hi0 : 0 < len := by have := (List.getElem?_eq_some_iff.1 hx).1; omega
        obtain ⟨x0, hx0⟩ : ∃ x0, l[0]? = some x0 := ⟨_, List.getElem?_eq_getElem (by omega)⟩
        obtain ⟨z1, z2, _⟩ := hq 0 x0 hx0
        have := z1 0 hC
        rw [List.getElem?_eq_getElem (show 0 < (enc x0).length by omega)] at this
        have h0c := World.cell?_spot this; simpa [Addr.add] using h0c
    subst hs0
    have e : ∀ j, (⟨b, off, none⟩ : Addr).add j = ⟨b, off + j, none⟩ := fun j => by unfold Addr.add; split <;> simp_all
    rw [e] at hblk
    exact ⟨b, off, rfl, hblk, fun j hj => by rw [← h1 j hj, e, Nat.add_assoc]⟩
  · obtain ⟨i, hi⟩ := List.getElem?_of_mem hx
    exact (hq i x hi).2.2
theorem RdR.nil (enc : α → List Value) (C : Nat) (w : World) : RdR enc C w none 0 0 [] := ⟨rfl, Nat.le_refl _, by decide, fun _ => rfl, fun i x h => by simp at h⟩
end
end Go.Proofs.YtajnfkmkombajacGreatDoor
namespace Go.Proofs.YtajnfkmkombajacGreatDoor
open Go.RowKit

/-- 2^50 -/
abbrev MaxA : Int := 1125899906842624
/-- is it an amount? -/
def amtB (n : Int) : Bool := decide (0 ≤ n) && decide (n ≤ 1125899906842624)
theorem amtB_iff {n : Int} : amtB n = true ↔ 0 ≤ n ∧ n ≤ 1125899906842624 := by simp [amtB]
theorem amtB_false {n : Int} : amtB n = false ↔ ¬ (0 ≤ n ∧ n ≤ 1125899906842624) := by rw [← amtB_iff]; simp

/-- may a times b over c be told, and is it an amount? -/
def overOk (a b c : Int) : Prop := (0 ≤ a ∧ a ≤ 1125899906842624) ∧ (0 ≤ b ∧ b ≤ 1125899906842624) ∧ (1 ≤ c ∧ c ≤ 1125899906842624) ∧ a * b / c ≤ 1125899906842624
instance (a b c : Int) : Decidable (overOk a b c) := by unfold overOk; infer_instance
def overC (a b c : Int) : Nat := if overOk a b c then 0 else 2
def overN (a b c : Int) : Int := if overOk a b c then a * b / c else 0
def overR (a b c : Int) : Int := if overOk a b c then a * b % c else 0
theorem over_yes {a b c : Int} (h : overOk a b c) : overC a b c = 0 ∧ overN a b c = a * b / c ∧ overR a b c = a * b % c := by simp [overC, overN, overR, h]
theorem over_no {a b c : Int} (h : ¬ overOk a b c) : overC a b c = 2 ∧ overN a b c = 0 ∧ overR a b c = 0 := by simp [overC, overN, overR, h]

def upOk (a b c : Int) : Prop := overOk a b c ∧ a * b / c + (if a * b % c = 0 then 0 else 1) ≤ 1125899906842624
instance (a b c : Int) : Decidable (upOk a b c) := by unfold upOk; infer_instance
def upC (a b c : Int) : Nat := if upOk a b c then 0 else 2
def upN (a b c : Int) : Int := if upOk a b c then a * b / c + (if a * b % c = 0 then 0 else 1) else 0
theorem up_yes {a b c : Int} (h : upOk a b c) : upC a b c = 0 ∧ upN a b c = a * b / c + (if a * b % c = 0 then 0 else 1) := by simp [upC, upN, h]
theorem up_no {a b c : Int} (h : ¬ upOk a b c) : upC a b c = 2 ∧ upN a b c = 0 := by simp [upC, upN, h]
end Go.Proofs.YtajnfkmkombajacGreatDoor
namespace Go.Proofs.YtajnfkmkombajacGreatDoor
open Go.RowKit

/-- a purse: what six owners have, their sum, the supply -/
structure PS where
  has : List Int
  sum : Int
  supply : Int

def PS.at (p : PS) (o : Int) : Int := p.has.getD o.toNat 0
/-- the cells of a purse -/
def PS.cells (p : PS) : List Int := p.has ++ [p.sum, p.supply]

/-- nobody owes, the sum is kept, and is at most supply; supply is an amount -/
structure PS.Ok (p : PS) : Prop where
  six : p.has.length = 6
  pos : ∀ x ∈ p.has, 0 ≤ x
  sumIs : p.has.sum = p.sum
  le : p.sum ≤ p.supply
  most : p.supply ≤ 1125899906842624

def PS.new : PS := ⟨[0, 0, 0, 0, 0, 0], 0, 0⟩
theorem PS.new_ok : PS.new.Ok := ⟨rfl, by simp [PS.new], rfl, by simp [PS.new], by simp [PS.new]⟩

theorem sum_le_of_nonneg : ∀ {l : List Int}, (∀ x ∈ l, 0 ≤ x) → ∀ i, l.getD i 0 ≤ l.sum ∧ 0 ≤ l.sum ∧ 0 ≤ l.getD i 0
  | [], _, i => by simp
  | a :: l, h, i => by
    have ha := h a (by simp)
    have ih := fun j => sum_le_of_nonneg (l := l) (fun x hx => h x (by simp [hx])) j
    cases i with
    | zero => have := ih 0; simp; omega
    | succ i => have := ih i; simp at this ⊢; omega

theorem sum_set : ∀ (l : List Int) (i : Nat) (v : Int), i < l.length → (l.set i v).sum = l.sum - l.getD i 0 + v
  | [], i, v, h => by simp at h
  | a :: l, 0, v, h => by simp; omega
  | a :: l, i + 1, v, h => by
    have := sum_set l i v (by simpa using h)
    simp only [List.set_cons_succ, List.sum_cons, List.getD_cons_succ]; omega

def ownB (o : Int) : Bool := decide (0 ≤ o) && decide (o < 6)
theorem ownB_iff {o : Int} : ownB o = true ↔ 0 ≤ o ∧ o < 6 := by simp [ownB]
theorem ownB_false {o : Int} : ownB o = false ↔ ¬ (0 ≤ o ∧ o < 6) := by rw [← ownB_iff]; simp

/-- owner o has n more (or less) -/
def PS.change (p : PS) (o n : Int) : PS := ⟨p.has.set o.toNat (p.at o + n), p.sum + n, p.supply⟩
def PS.grow (p : PS) (n : Int) : PS := ⟨p.has, p.sum, p.supply + n⟩

theorem PS.Ok.at_bd {p : PS} (h : p.Ok) (o : Int) : 0 ≤ p.at o ∧ p.at o ≤ p.sum := by
  have := sum_le_of_nonneg h.pos o.toNat; rw [h.sumIs] at this; exact ⟨this.2.2, this.1⟩
theorem PS.Ok.sum_bd {p : PS} (h : p.Ok) : 0 ≤ p.sum := by have := sum_le_of_nonneg h.pos 0; rw [h.sumIs] at this; exact this.2.1
theorem PS.Ok.change {p : PS} (h : p.Ok) {o n : Int} (ho : ownB o = true) (h1 : 0 ≤ p.at o + n) (h2 : p.sum + n ≤ p.supply) : (p.change o n).Ok := by
  rw [ownB_iff] at ho
  refine ⟨by simp [PS.change, h.six], fun x hx => ?_, ?_, h2, h.most⟩
  · rcases List.mem_or_eq_of_mem_set hx with hx | hx
    · exact h.pos x hx
    · rw [hx]; exact h1
  · simp only [PS.change]
    rw [sum_set _ _ _ (by rw [h.six]; omega), h.sumIs]
    show p.sum - p.at o + (p.at o + n) = p.sum + n
    omega
theorem PS.Ok.grow {p : PS} (h : p.Ok) {n : Int} (h1 : p.sum ≤ p.supply + n) (h2 : p.supply + n ≤ 1125899906842624) : (p.grow n).Ok := ⟨h.six, h.pos, h.sumIs, h1, h2⟩

/-- what each call answers (an error's number) and leaves -/
def lookC (o n : Int) : Nat := if ownB o && amtB n then 0 else 2
def PS.growOp (p : PS) (n : Int) : Nat × PS := if amtB n && amtB (p.supply + n) then (0, p.grow n) else (2, p)
def PS.mintOp (p : PS) (o n : Int) : Nat × PS := if lookC o n ≠ 0 then (2, p) else if (p.growOp n).1 ≠ 0 then (2, p) else (0, (p.grow n).change o n)
def PS.burnOp (p : PS) (n : Int) : Nat × PS := if amtB n = false then (2, p) else if p.supply - p.sum < n then (6, p) else (0, p.grow (-n))
def PS.outOp (p : PS) (o n : Int) : Nat × PS := if lookC o n ≠ 0 then (2, p) else if p.at o < n then (6, p) else (0, p.change o (-n))
def PS.inOp (p : PS) (o n : Int) : Nat × PS := if lookC o n ≠ 0 then (2, p) else if p.supply - p.sum < n then (6, p) else (0, p.change o n)
def PS.moveOp (p : PS) (a b n : Int) : Nat × PS := if lookC b n ≠ 0 then (2, p) else if (p.outOp a n).1 ≠ 0 then p.outOp a n else (p.outOp a n).2.inOp b n

theorem lookC_zero {o n : Int} : lookC o n = 0 ↔ ownB o = true ∧ 0 ≤ n ∧ n ≤ 1125899906842624 := by
  unfold lookC; rw [← amtB_iff]; split <;> simp_all
theorem PS.growOp_ok {p : PS} (h : p.Ok) (n : Int) : (p.growOp n).2.Ok := by
  unfold PS.growOp; split
  · next hc =>
    simp only [Bool.and_eq_true, amtB_iff] at hc
    have := h.le
    exact h.grow (by omega) hc.2.2
  · exact h
theorem PS.mintOp_ok {p : PS} (h : p.Ok) (o n : Int) : (p.mintOp o n).2.Ok := by
  unfold PS.mintOp; split
  · exact h
  · next h1 =>
    split
    · exact h
    · next h2 =>
      obtain ⟨ho, hn, _⟩ := lookC_zero.1 (Decidable.not_not.1 h1)
      have hg : (p.growOp n).1 = 0 := Decidable.not_not.1 h2
      have hc : amtB n = true ∧ amtB (p.supply + n) = true := by unfold PS.growOp at hg; split at hg <;> simp_all
      rw [amtB_iff, amtB_iff] at hc
      have hl := h.le
      have hb := h.at_bd o
      exact (h.grow (by omega) hc.2.2).change ho (by show 0 ≤ p.at o + n; omega) (by show p.sum + n ≤ p.supply + n; omega)
theorem PS.burnOp_ok {p : PS} (h : p.Ok) (n : Int) : (p.burnOp n).2.Ok := by
  unfold PS.burnOp; split
  · exact h
  · next h1 =>
    split
    · exact h
    · next h2 =>
      have hn := amtB_iff.1 (by simpa using h1)
      have := h.most
      exact h.grow (by omega) (by omega)
theorem PS.outOp_ok {p : PS} (h : p.Ok) (o n : Int) : (p.outOp o n).2.Ok := by
  unfold PS.outOp; split
  · exact h
  · next h1 =>
    split
    · exact h
    · next h2 =>
      obtain ⟨ho, hn, _⟩ := lookC_zero.1 (Decidable.not_not.1 h1)
      have := h.le
      exact h.change ho (by omega) (by omega)
theorem PS.inOp_ok {p : PS} (h : p.Ok) (o n : Int) : (p.inOp o n).2.Ok := by
  unfold PS.inOp; split
  · exact h
  · next h1 =>
    split
    · exact h
    · next h2 =>
      obtain ⟨ho, hn, _⟩ := lookC_zero.1 (Decidable.not_not.1 h1)
      have hb := h.at_bd o
      exact h.change ho (by omega) (by omega)
theorem PS.moveOp_ok {p : PS} (h : p.Ok) (a b n : Int) : (p.moveOp a b n).2.Ok := by
  unfold PS.moveOp; split
  · exact h
  · split
    · exact PS.outOp_ok h a n
    · exact PS.inOp_ok (PS.outOp_ok h a n) b n
end Go.Proofs.YtajnfkmkombajacGreatDoor
