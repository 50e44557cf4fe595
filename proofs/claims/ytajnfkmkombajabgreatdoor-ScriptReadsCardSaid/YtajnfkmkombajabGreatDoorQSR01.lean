/-
  Small words used in all walks: a slice that reads as numbers; what is kept below the heap's size. No program in sight.
  The sentinels of package api: what an error's number is as a value, and that the listed ones lie where the program's text lays them.
  From a row's cell on listed sentinels to what the walks ask: the errors' variables hold them.
  Plain: the commands of scripts, their words and forms; what of a line is a number. No program in sight.
  Plain: a decimal numeral is read back; pieces between spaces joined and split. No program in sight.
  Contracts of errors.Is at sentinels of errors.New's make: lines of the worked proof SentryIs, turned to this program. 26: how many package-level variables the dump has (by-name's 'g' rows); 391: the fuel of Go.method in the walk's goal.
  What a call leaves as it was, but for some blocks; blocks of numbers. No program in sight.
-/
import Derived.WalkKit
import Derived.ProofKit
import Derived.WalkSmall
import Derived.Lib.Hide
import Derived.Maps.AppendAt
import Derived.Deep.AppendLies
import Derived.Deep.RegionWith
import Derived.Test.YtajnfkmkombajabGreatDoorProg
import Derived.LaidLaws
import Derived.Stop.LaidErr
import Derived.KernelRfl
import Derived.Lib.ItoaNum
import Derived.Lib.AtoiAll
import Derived.Lib.Split
import Derived.Lib.AtoiTie
import Derived.Test.YtajnfkmkombajabGreatDoorChecked
import Derived.LaidEql
import Derived.Stop.Asserts
import Derived.RowKitTokens
import Derived.OneCell
set_option linter.unusedVariables false
set_option linter.unusedSimpArgs false
set_option linter.unusedVariables false
namespace Go.Proofs.YtajnfkmkombajabGreatDoor
open Go.RowKit

/-- The slice value '.slice ao len cap' reads, in w, as the numbers zs of kind k. -/
structure RdI (k : IntKind) (w : World) (ao : Option Addr) (len cap : Nat) (zs : List Int) : Prop where
  size : zs.length = len
  lc : len ≤ cap
  cm : cap ≤ maxLen
  nul : ao = none → cap = 0
  cells : ∀ i, i < len → ∃ b off, ao = some ⟨b, off, none⟩ ∧ w.cell? ⟨b, off + i, none⟩ = some (.int k (zs.getD i 0))

theorem RdI.nil (k : IntKind) (w : World) : RdI k w none 0 0 [] := ⟨rfl, Nat.le_refl _, by simp, fun _ => rfl, fun i h => by omega⟩

theorem RdI.of_row {k : IntKind} {w : World} {a : Option Addr} {len cap : Nat} {zs : List Int} (h : (a = none ∧ len = 0 ∧ cap = 0 ∧ zs = []) ∨
    ∃ x, a = some x ∧ len ≤ cap ∧ cap ≤ maxLen ∧ zs.length = cap ∧ (∀ i, i < zs.length → w.cell? (x.add i) = some (.int k (zs.getD i 0))) ∧ ∀ n ∈ zs, (Lit.int k n).wf = true) : RdI k w a len cap (zs.take len) := by
  rcases h with ⟨rfl, rfl, rfl, rfl⟩ | ⟨x, rfl, hl, hm, hz, hc, _⟩
  · exact RdI.nil k w
  · refine ⟨by rw [List.length_take]; omega, hl, hm, fun h => (by cases h), fun i hi => ?_⟩
    have hci := hc i (by omega)
    have hs : (x.add i).spot = none := World.cell?_spot hci
    obtain ⟨b, off, spot⟩ := x
    have hs0 : spot = none := by
      by_cases h0 : i = 0
      · subst h0; simpa [Addr.add] using hs
      · have h0c := World.cell?_spot (hc 0 (by omega)); simpa [Addr.add] using h0c
    subst hs0
    refine ⟨b, off, rfl, ?_⟩
    have e : (⟨b, off, none⟩ : Addr).add i = ⟨b, off + i, none⟩ := by unfold Addr.add; split <;> simp_all
    rw [e] at hci
    rw [hci]; simp [List.getD_eq_getElem?_getD, hi]

theorem RdI.split {k : IntKind} {w : World} {ao : Option Addr} {len cap : Nat} {zs : List Int} (h : RdI k w ao len cap zs) :
    (len = 0 ∧ zs = []) ∨ (0 < len ∧ ∃ b off, ao = some ⟨b, off, none⟩ ∧ b < w.heap.size ∧ ∀ i, i < len → w.cell? ⟨b, off + i, none⟩ = some (.int k (zs.getD i 0))) := by
  rcases Nat.eq_zero_or_pos len with h0 | h0
  · exact .inl ⟨h0, List.eq_nil_of_length_eq_zero (by rw [h.size, h0])⟩
  · obtain ⟨b, off, ha, hc⟩ := h.cells 0 h0
    refine .inr ⟨h0, b, off, ha, World.block_lt_of_cell? w _ hc, fun i hi => ?_⟩
    obtain ⟨b', off', ha', hc'⟩ := h.cells i hi
    rw [ha] at ha'; cases ha'; exact hc'

theorem RdI.below {k : IntKind} {w w' : World} {ao : Option Addr} {len cap : Nat} {zs : List Int} (h : RdI k w ao len cap zs) (hb : Below w.heap.size w w') : RdI k w' ao len cap zs := by
  refine ⟨h.size, h.lc, h.cm, h.nul, fun i hi => ?_⟩
  obtain ⟨b, off, ha, hc⟩ := h.cells i hi
  exact ⟨b, off, ha, by rw [hb.cell (p := ⟨b, off + i, none⟩) (World.block_lt_of_cell? w _ hc)]; exact hc⟩

theorem RdI.of_own {k : IntKind} {w : World} {base e : Nat} {ao : Option Addr} {len cap : Nat} {zs : List Int} (h : w.ownsRow base e 1 (.slice ao len cap) len (zs.map (Value.int k))) : RdI k w ao len cap zs := by
  obtain ⟨h1, h2⟩ := h
  have hl : zs.length = len := by simpa using h1
  rcases h2 with ⟨hv, hn⟩ | ⟨g, cap', cur, hv, hg, hh, hnc, hcm, hcs, ht⟩
  · cases hv
    exact ⟨hl, Nat.le_refl _, by simp, fun _ => rfl, fun i h => by omega⟩
  · cases hv
    refine ⟨hl, hnc, hcm, fun h => (by cases h), fun i hi => ⟨g, 0, rfl, ?_⟩⟩
    have hi' : i < zs.length := by omega
    have : cur[i]? = some (.int k (zs.getD i 0)) := by
      have h3 : (cur.toList.take (len * 1))[i]? = some (.int k (zs.getD i 0)) := by
        rw [ht]; simp [hi']
      rw [List.getElem?_take] at h3
      split at h3
      · simpa using h3
      · cases h3
    simp [World.cell?, hh, this]

theorem own_cells {w : World} {base e n : Nat} {ao : Option Addr} {cap : Nat} {xs : List Value} (h : w.ownsRow base e 1 (.slice ao n cap) n xs) :
    ∃ g : Nat, 0 < n → ao = some ⟨g, 0, none⟩ ∧ base ≤ g ∧ g < w.heap.size ∧ n ≤ cap ∧ ∀ q, q < n → w.cell? ⟨g, q, none⟩ = xs[q]? := by
  rcases h.2 with ⟨hv, hn⟩ | ⟨g, cap', cur, hv, hg, hh, hnc, hcm, hcs, ht⟩
  · exact ⟨0, fun h0 => by omega⟩
  · cases hv
    refine ⟨g, fun _ => ⟨rfl, hg, (Array.getElem?_eq_some_iff.1 hh).1, hnc, fun q hq => ?_⟩⟩
    rw [← ht, List.getElem?_take, if_pos (by omega)]
    simp [World.cell?, hh]

theorem set_other {w : World} {b o b' o' : Nat} {v : Value} (h : b ≠ b') : (w.setCell ⟨b, o, none⟩ v).cell? ⟨b', o', none⟩ = w.cell? ⟨b', o', none⟩ :=
  World.cell?_setCell_other _ _ _ _ (fun e => h (congrArg Addr.block e))

theorem cell_one_at (w : World) (x : Value) (t g : Nat) (hg : g = w.heap.size) : ∀ j u, [x][j]? = some u → (w.alloc (.cells #[x] t)).cell? ((⟨g, 0, none⟩ : Addr).add j) = some u := by
  subst hg; exact cell_one_new w x t

theorem own_shape {w : World} {base e size n : Nat} {v : Value} {xs : List Value} (h : w.ownsRow base e size v n xs) : ∃ ao cap, v = .slice ao n cap := by
  rcases h.2 with ⟨hv, hn⟩ | ⟨g, cap, cur, hv, _⟩
  · exact ⟨none, 0, by rw [hv, hn]⟩
  · exact ⟨some ⟨g, 0, none⟩, cap, hv⟩

theorem own_block {w : World} {base e size n : Nat} {v : Value} {xs : List Value} (h : w.ownsRow base e size v n xs) {k : Nat} (hk : k < base) : some k ≠ v.ownBlock := by
  rcases h.2 with ⟨hv, _⟩ | ⟨g, cap, cur, hv, hg, _⟩
  · rw [hv]; intro e; cases e
  · rw [hv]; intro e; simp [Value.ownBlock] at e; omega

/-- l[:h] of a slice that reads as numbers -/
theorem RdI.hi {k : IntKind} {P : Program} {t : TypeId} (ht : P.underlying t = some (.slice (P.elem t))) (hsz : ∀ wx : World, (sizeOf (P.elem t)).run P wx = .ok 1 wx) {w : World} {ao : Option Addr} {len cap : Nat} {zs : List Int} (R : RdI k w ao len cap zs) (h : Nat) (hh : h ≤ len) (kh : IntKind) :
    (∀ wx : World, (Instr.slice t (.slice ao len cap) none (some (.int kh h)) none).run P wx = .ok (.slice ao h cap) wx) ∧ RdI k w ao h cap (zs.take h) := by
  have hc := R.lc
  refine ⟨fun wx => ?_, ⟨by rw [List.length_take, R.size]; omega, by omega, R.cm, R.nul, fun i hi => ?_⟩⟩
  · rw [run_slice_h wx t ao len cap ht kh h (by omega) (by omega), hsz]
    simp only [Result.andThen, sliced, Int.toNat_natCast, Nat.zero_mul, Nat.sub_zero]
    congr 2
    split
    · rfl
    · cases ao <;> simp [Addr.add]
  · obtain ⟨b, off, ha, hcl⟩ := R.cells i (by omega)
    exact ⟨b, off, ha, by rw [hcl]; simp [List.getD_eq_getElem?_getD, hi]⟩

/-- l[lo:] of a slice that reads as numbers -/
theorem RdI.lo {k : IntKind} {P : Program} {t : TypeId} (ht : P.underlying t = some (.slice (P.elem t))) (hsz : ∀ wx : World, (sizeOf (P.elem t)).run P wx = .ok 1 wx) {w : World} {ao : Option Addr} {len cap : Nat} {zs : List Int} (R : RdI k w ao len cap zs) (l : Nat) (hl : l ≤ len) (kl : IntKind) :
    ∃ a', (∀ wx : World, (Instr.slice t (.slice ao len cap) (some (.int kl l)) none none).run P wx = .ok (.slice a' (len - l) (cap - l)) wx) ∧ RdI k w a' (len - l) (cap - l) (zs.drop l) := by
  have hc := R.lc
  have hm := R.cm
  refine ⟨if cap = l then ao else ao.map (·.add (l * 1)), fun wx => ?_, ⟨by rw [List.length_drop, R.size], by omega, by omega, fun h => ?_, fun i hi => ?_⟩⟩
  · rw [run_slice_l wx t ao len cap ht kl l (by omega) (by omega), hsz]
    simp only [Result.andThen, sliced, Int.toNat_natCast]
  · split at h
    · have := R.nul h; omega
    · cases ao with
      | none => have := R.nul rfl; omega
      | some x => cases h
  · obtain ⟨b, off, ha, hcl⟩ := R.cells (l + i) (by omega)
    refine ⟨b, off + l, ?_, ?_⟩
    · rw [if_neg (by omega), ha]
      simp only [Option.map_some, Nat.mul_one, Addr.add]
      split
      · simp_all
      · rfl
    · rw [Nat.add_assoc, hcl]; simp [List.getD_eq_getElem?_getD, List.getElem?_drop]

theorem _root_.Go.RowKit.Below.drewN {B : Nat} {a w : World} (h : Below B a w) (n : Nat) : Below B a (w.drewN n) := ⟨h.os, h.tape, h.output, h.size, h.block⟩
theorem btrans {a b c : World} (h : Below a.heap.size a b) (k : Below b.heap.size b c) : Below a.heap.size a c := h.trans (k.mono h.size)

theorem below_of {W w' : World} (h : Below W.heap.size W w') : (∀ b o, b < W.heap.size → w'.cell? ⟨b, o, none⟩ = W.cell? ⟨b, o, none⟩) ∧ (∀ b o, b < W.heap.size → w'.frozen? ⟨b, o, none⟩ = W.frozen? ⟨b, o, none⟩) :=
  ⟨fun b o hb => h.cell (p := ⟨b, o, none⟩) hb, fun b o hb => h.frozen (p := ⟨b, o, none⟩) hb⟩
end Go.Proofs.YtajnfkmkombajabGreatDoor
namespace Go.Proofs.YtajnfkmkombajabGreatDoor
open Go.RowKit

/-- where the variable of error number c lies -/
def gE : Nat → Nat
  | 1 => 1
  | 2 => 0
  | 3 => 2
  | 4 => 3
  | 5 => 4
  | 6 => 5
  | 7 => 6
  | 8 => 7
  | 9 => 8
  | 10 => 9
  | _ => 0

/-- error number c as a value: 0 is nil -/
def ev (A : Nat → Addr) (c : Nat) : Value := if c = 0 then .nilIface else .iface 235 (.pointer (some (A c)))
theorem ev_nil (A : Nat → Addr) : ev A 0 = .nilIface := rfl
theorem ev_some (A : Nat → Addr) {c : Nat} (h : c ≠ 0) : ev A c = .iface 235 (.pointer (some (A c))) := if_neg h

/-- the variables of the listed errors hold them -/
structure Errs (A : Nat → Addr) (S : List Nat) (w : World) : Prop where
  cell : ∀ c, c ∈ S → w.cell? ⟨gE c, 0, none⟩ = some (ev A c)

theorem Errs.below {A : Nat → Addr} {S : List Nat} {w w' : World} (h : Errs A S w) (hb : Below w.heap.size w w') : Errs A S w' :=
  ⟨fun c hc => by rw [hb.cell (p := ⟨gE c, 0, none⟩) (World.block_lt_of_cell? w _ (h.cell c hc))]; exact h.cell c hc⟩
theorem Errs.drewN {A : Nat → Addr} {S : List Nat} {w : World} (h : Errs A S w) (n : Nat) : Errs A S (w.drewN n) := ⟨fun c hc => h.cell c hc⟩

/-- only the draws have gone on -/
def Dr (w w' : World) : Prop := ∃ n, w.drewN n = w'
theorem Dr.refl (w : World) : Dr w w := ⟨0, rfl⟩
theorem Dr.trans {a b c : World} (h : Dr a b) (k : Dr b c) : Dr a c := by
  obtain ⟨n, rfl⟩ := h; obtain ⟨m, rfl⟩ := k; exact ⟨n + m, by simp [World.drewN, Nat.add_assoc]⟩
theorem Dr.drew (w : World) : Dr w w.drew := ⟨1, rfl⟩
theorem Dr.below {w w' : World} (h : Dr w w') : Below w.heap.size w w' := by
  obtain ⟨n, rfl⟩ := h; exact ⟨rfl, rfl, rfl, Nat.le_refl _, fun _ _ => rfl⟩
end Go.Proofs.YtajnfkmkombajabGreatDoor
namespace Go.Proofs.YtajnfkmkombajabGreatDoor
open Go.RowKit Go.ChangeShapes

theorem Tryz.star : "*" ++ "errors.errorString" = "*errors.errorString" := by decide +kernel
theorem Tryz.rowErr (u : TypeId) (h : Tryz.prog.typeName? 3 u = some "*errors.errorString") : u = 235 :=
  typeName_ptr_named (P := Tryz.prog) (nm := "errors.errorString") (by rw [Tryz.star]; kernel_rfl) (by kernel_rfl) (by decide) u (by rw [Tryz.star]; exact h)
theorem Tryz.cellsErr : Tryz.prog.cellsOf 237 = 1 := by kernel_rfl
theorem Tryz.cellsStr : Tryz.prog.cellsOf 9 = 1 := by kernel_rfl

/-- the listed variables are the sentinels of these numbers -/
def LaidAs : List Nat → List (String × DataW Unit) → Prop
  | [], [] => True
  | c :: cs, x :: r => (c ≠ 0 ∧ c ∉ cs ∧ Tryz.prog.globalNamed x.1 = some (gE c) ∧ (Tryz.prog.globals[gE c]?).map (·.type) = some 26 ∧ ∃ text, x.2 = .iface "*errors.errorString" (.ptr (.agg [.lit (.string text)]))) ∧ LaidAs cs r
  | _, _ => False

theorem errs_of_laid {W : World} : ∀ (cs : List Nat) (l : List (String × DataW Unit)), LaidAs cs l → laidMet Tryz.prog l W → ∃ A, Errs A cs W
  | [], [], _, _ => ⟨fun _ => ⟨0, 0, none⟩, ⟨fun c hc => by cases hc⟩⟩
  | c :: cs, (n, d) :: r, ⟨⟨h0, h1, h2, h3, text, h4⟩, hr⟩, hL => by
    obtain ⟨A, hA⟩ := errs_of_laid cs r hr hL.tail
    simp only at h4 h2
    subst h4
    obtain ⟨a, s, hv, _, _, _⟩ := laid_sentinel hL h2 h3 Tryz.underlying26 Tryz.rowErr Tryz.underlying235 Tryz.underlying237 rfl rfl Tryz.underlying9 Tryz.cellsErr Tryz.cellsStr
    refine ⟨fun k => if k = c then a else A k, ⟨fun k hk => ?_⟩⟩
    by_cases hkc : k = c
    · subst hkc
      have := World.var?_cell h2 hv 0
      rw [ev_some _ h0]
      simpa using this
    · have hk' : k ∈ cs := by simpa [hkc] using hk
      have := hA.cell k hk'
      rw [this]; simp [ev, hkc]
  | [], _ :: _, h, _ => h.elim
  | _ :: _, [], h, _ => h.elim
end Go.Proofs.YtajnfkmkombajabGreatDoor
namespace Go.Proofs.YtajnfkmkombajabGreatDoor
open Go

def bstr (l : List UInt8) : ByteArray := ⟨l.toArray⟩
def itoaB (n : Int) : ByteArray := ⟨(Lib.itoa n).toArray⟩
def spB : ByteArray := bstr [32]
def okB : ByteArray := bstr [111, 107]
/-- "bakehouse: " -/
def errHead : List UInt8 := [98, 97, 107, 101, 104, 111, 117, 115, 101, 58, 32]
def errTail : Nat → List UInt8
  | 1 => [116, 101, 120, 116]
  | 2 => [98, 111, 117, 110, 100]
  | 3 => [115, 104, 97, 112, 101]
  | 4 => [110, 111, 110, 101]
  | 5 => [101, 120, 105, 115, 116]
  | 6 => [115, 104, 111, 114, 116]
  | 7 => [115, 109, 97, 108, 108]
  | 8 => [103, 111, 110, 101]
  | 9 => [116, 117, 114, 110]
  | _ => [111, 108, 100]
def errB (c : Nat) : ByteArray := bstr (errHead ++ errTail c)

/-- the commands, in the text's order: words -/
def cmdWords : List (List UInt8) :=
  [[112, 97, 121], [115, 116, 97, 107, 101], [117, 110, 115, 116, 97, 107, 101], [97, 99, 99, 117, 115, 101], [99, 121, 99, 108, 101], [102, 114, 101, 101], [116, 117, 114, 110], [98, 97, 107, 101], [104, 97, 115], [115, 116, 97, 107, 101, 100],
   [118, 97, 108, 117, 101], [119, 97, 105, 116, 115], [115, 117, 112, 112, 108, 121], [98, 111, 110, 117, 115], [97, 116]]
/-- their forms: 100 a digit, 110 a number -/
def cmdForms : List (List UInt8) :=
  [[100, 100, 110], [100, 100, 110], [100, 100, 110], [100, 100, 110, 110], [], [100], [100], [100], [100], [100], [100, 100], [100, 100, 110], [], [], []]
def cmdOf (w : List UInt8) : Option Nat := cmdWords.findIdx? (· == w)
def cmdForm (i : Nat) : List UInt8 := cmdForms.getD i []

/-- a number of a word -/
def numOf (s : ByteArray) : Option Int :=
  match Lib.atoiAll s.data.toList with
  | .ok v => if s.size ≤ 7 ∧ 0 ≤ v ∧ itoaB v = s then some v else none
  | _ => none
def formNum (f : UInt8) (s : ByteArray) : Option Int :=
  match numOf s with
  | none => none
  | some v => if f = 100 ∧ 9 < v then none else some v
def readZ : List (UInt8 × ByteArray) → Option (List Int)
  | [] => some []
  | x :: l => match formNum x.1 x.2, readZ l with
    | some v, some r => some (v :: r)
    | _, _ => none
def readB (form : List UInt8) (words : List ByteArray) : Option (List Int) := if form.length = words.length then readZ (form.zip words) else none

theorem readZ_snoc : ∀ (l : List (UInt8 × ByteArray)) (x : UInt8 × ByteArray), readZ (l ++ [x]) = match readZ l, formNum x.1 x.2 with
    | some r, some v => some (r ++ [v])
    | _, _ => none
  | [], x => by
    show readZ [x] = _
    unfold readZ readZ
    cases formNum x.1 x.2 <;> rfl
  | y :: l, x => by
    show readZ (y :: (l ++ [x])) = _
    conv => lhs; unfold readZ
    rw [readZ_snoc l x]
    conv => rhs; unfold readZ
    cases formNum y.1 y.2 <;> cases readZ l <;> cases formNum x.1 x.2 <;> rfl
theorem readZ_len : ∀ (l : List (UInt8 × ByteArray)) (r : List Int), readZ l = some r → r.length = l.length
  | [], r, h => by cases h; rfl
  | y :: l, r, h => by
    unfold readZ at h
    cases hy : formNum y.1 y.2 with
    | none => rw [hy] at h; cases h
    | some v =>
      cases hl : readZ l with
      | none => rw [hy, hl] at h; cases h
      | some t =>
        rw [hy, hl] at h
        cases h
        simp [readZ_len l t hl]
theorem numOf_bd {s : ByteArray} {v : Int} (h : numOf s = some v) : 0 ≤ v ∧ s.size ≤ 7 ∧ itoaB v = s ∧ Lib.atoiAll s.data.toList = .ok v := by
  unfold numOf at h
  cases ha : Lib.atoiAll s.data.toList with
  | ok u =>
    rw [ha] at h
    simp only at h
    split at h
    · next hc => cases h; exact ⟨hc.2.1, hc.1, hc.2.2, rfl⟩
    · cases h
  | _ => rw [ha] at h; cases h

end Go.Proofs.YtajnfkmkombajabGreatDoor
namespace Go.Proofs.YtajnfkmkombajabGreatDoor
open Go

theorem dig_val (u : Nat) (h : u < 10) : Lib.digitVal (UInt8.ofNat (48 + u)) = some u := by
  unfold Lib.digitVal
  have : (UInt8.ofNat (48 + u)).toNat = 48 + u := by simp; omega
  rw [this, if_pos (by omega)]
  congr 1; omega
theorem decFrom_snoc : ∀ (l : List UInt8) (acc n d : Nat) (b : UInt8), Lib.decFrom acc l = some n → Lib.digitVal b = some d → Lib.decFrom acc (l ++ [b]) = some (n * 10 + d)
  | [], acc, n, d, b, h, hb => by
    simp only [Lib.decFrom, Option.some.injEq] at h
    subst h
    simp [Lib.decFrom, hb]
  | a :: l, acc, n, d, b, h, hb => by
    simp only [Lib.decFrom, List.cons_append] at h ⊢
    cases ha : Lib.digitVal a with
    | none => rw [ha] at h; cases h
    | some e =>
      rw [ha] at h
      exact decFrom_snoc l _ n d b h hb
theorem decFrom_digits (u : Nat) : Lib.decFrom 0 (Lib.decDigits u) = some u := by
  induction u using Nat.strongRecOn with
  | _ u ih =>
    by_cases h : u < 10
    · rw [Lib.decDigits, dif_pos h]
      show (match Lib.digitVal (UInt8.ofNat (48 + u)) with | some d => Lib.decFrom (0 * 10 + d) [] | none => none) = some u
      rw [dig_val u h]
      simp [Lib.decFrom]
    · rw [Lib.decDigits, dif_neg h, decFrom_snoc _ _ _ _ _ (ih (u / 10) (by omega)) (dig_val (u % 10) (by omega))]
      congr 1; omega
theorem digits_ne (u : Nat) : Lib.decDigits u ≠ [] := by
  rw [Lib.decDigits]
  split <;> simp
/-- each byte of a numeral is a digit -/
theorem digits_mem (u : Nat) : ∀ b ∈ Lib.decDigits u, 48 ≤ b.toNat ∧ b.toNat ≤ 57 := by
  induction u using Nat.strongRecOn with
  | _ u ih =>
    intro b hb
    rw [Lib.decDigits] at hb
    split at hb
    · next h =>
      obtain rfl := List.mem_singleton.1 hb
      have : (UInt8.ofNat (48 + u)).toNat = 48 + u := by simp; omega
      omega
    · next h =>
      rcases List.mem_append.1 hb with hb | hb
      · exact ih (u / 10) (by omega) b hb
      · obtain rfl := List.mem_singleton.1 hb
        have : (UInt8.ofNat (48 + u % 10)).toNat = 48 + u % 10 := by simp; omega
        omega
theorem atoi_digits (u : Nat) : Lib.atoi (Lib.decDigits u) = some (u : Int) := by
  have hd := decFrom_digits u
  have hm := digits_mem u
  cases hl : Lib.decDigits u with
  | nil => exact absurd hl (digits_ne u)
  | cons b r =>
    rw [hl] at hd hm
    have h0 := hm b (by simp)
    have n1 : (b == 45) = false := by
      rw [beq_eq_false_iff_ne]; intro e; subst e; exact absurd h0.1 (by decide)
    have n2 : (b == 43) = false := by
      rw [beq_eq_false_iff_ne]; intro e; subst e; exact absurd h0.1 (by decide)
    show (if b == 45 then _ else if b == 43 then _ else _) = _
    rw [n1, n2]
    simp only [Bool.false_eq_true, if_false]
    unfold Lib.decNat
    simp [hd]
theorem digits_len_le (u k : Nat) (h : u < 10 ^ k) (hk : 1 ≤ k) : (Lib.decDigits u).length ≤ k := by
  rw [Lib.decDigits_length]
  rcases Nat.eq_zero_or_pos u with rfl | hp
  · rw [Lib.nDigits_small (by omega)]; exact hk
  · by_cases hn : Lib.nDigits u ≤ k
    · exact hn
    · have : 10 ^ (Lib.nDigits u - 1) ≤ u := by
        have : ∀ v, 1 ≤ v → 10 ^ (Lib.nDigits v - 1) ≤ v := by
          intro v
          induction v using Nat.strongRecOn with
          | _ v ih =>
            intro hv
            by_cases h10 : v < 10
            · rw [Lib.nDigits_small h10]; simpa using hv
            · rw [Lib.nDigits_big h10]
              have := ih (v / 10) (by omega) (by omega)
              have hp := Lib.nDigits_pos (v / 10)
              obtain ⟨j, hj⟩ : ∃ j, Lib.nDigits (v / 10) = j + 1 := ⟨Lib.nDigits (v / 10) - 1, by omega⟩
              rw [hj] at this ⊢
              simp only [Nat.add_sub_cancel] at this ⊢
              rw [Nat.pow_succ]; omega
        exact this u hp
      have h2 : 10 ^ k ≤ 10 ^ (Lib.nDigits u - 1) := Nat.pow_le_pow_right (by decide) (by omega)
      omega
theorem atoiAll_digits (u : Nat) (h : u ≤ 9999999) : Lib.atoiAll (Lib.decDigits u) = .ok (u : Int) := by
  rw [Lib.atoiAll_short _ (Nat.le_trans (digits_len_le u 7 (by omega) (by decide)) (by decide)), atoi_digits]
  rfl
theorem itoa_len21 (n : Int) (h0 : -9223372036854775808 ≤ n) (h1 : n ≤ 9223372036854775807) : (Lib.itoa n).length ≤ 21 := by
  unfold Lib.itoa
  split
  · rw [List.length_cons]
    have := digits_len_le n.natAbs 20 (by omega) (by decide)
    omega
  · have := digits_len_le n.toNat 20 (by omega) (by decide)
    omega
end Go.Proofs.YtajnfkmkombajabGreatDoor
namespace Go.Proofs.YtajnfkmkombajabGreatDoor
open Go.RowKit Go.Extern.Stop Go.Stop Go.Extern

theorem Tryz.isTypeOf (v : Value) (w : World) : (Extern.ReflectliteType.typeOf #[.iface 235 v]).run Tryz.prog w = .ok (.iface 142 (.agg #[.pointer (some ⟨26, 235, none⟩)])) w := by kernel_rfl
/-- the model's entry for reflectlite's Comparable, at this program -/
def compF (t : TypeId) : Sem Value := do Extern.Rtype.noPackHeld "Comparable" t; pure (.bool (← typeInfo t).comparable)
theorem Tryz.isComparable (w : World) : ((Extern.ReflectliteType.method compF) #[.agg #[.pointer (some ⟨26, 235, none⟩)]]).run Tryz.prog w = .ok (.bool true) w := by kernel_rfl
theorem Tryz.isMethodComparable (v : Value) (w : World) : (Go.method 391 142 v "Comparable").run Tryz.prog w = .ok (230, v) w := by kernel_rfl
theorem Tryz.isComp : (Tryz.prog.info? 235).map (·.comparable) = some true := by kernel_rfl
theorem Tryz.isSize : (Tryz.prog.info? 237).map (·.size) = some 1 := by kernel_rfl
theorem Tryz.noIsE (v : Value) (xT : TypeId) (w : World) : (Instr.typeAssert (.iface 235 v) xT 152 true).run Tryz.prog w = .ok (.tuple #[.nilIface, .bool false]) w := run_typeAssert_lacksB Tryz.underlying152 (by kernel_rfl) (by kernel_rfl) v xT w
theorem Tryz.noUnwrapE (v : Value) (xT : TypeId) (w : World) : (Instr.typeAssert (.iface 235 v) xT 149 true).run Tryz.prog w = .ok (.tuple #[.nilIface, .bool false]) w := run_typeAssert_lacksB Tryz.underlying149 (by kernel_rfl) (by kernel_rfl) v xT w
theorem Tryz.noUnwrapsE (v : Value) (xT : TypeId) (w : World) : (Instr.typeAssert (.iface 235 v) xT 150 true).run Tryz.prog w = .ok (.tuple #[.nilIface, .bool false]) w := run_typeAssert_lacksB Tryz.underlying150 (by kernel_rfl) (by kernel_rfl) v xT w
theorem Tryz.noIsF (v : Value) (xT : TypeId) (w : World) : (Instr.typeAssert (.iface 69 v) xT 152 true).run Tryz.prog w = .ok (.tuple #[.nilIface, .bool false]) w := run_typeAssert_lacksB Tryz.underlying152 (by kernel_rfl) (by kernel_rfl) v xT w
theorem Tryz.hasUnwrapF (v : Value) (xT : TypeId) (w : World) : (Instr.typeAssert (.iface 69 v) xT 149 true).run Tryz.prog w = .ok (.tuple #[.iface 69 v, .bool true]) w := run_typeAssert_hasB Tryz.underlying149 (by kernel_rfl) v xT w
theorem Tryz.methodUnwrap (v : Value) (w : World) : (Go.method 391 69 v "Unwrap").run Tryz.prog w = .ok (223, v) w := by kernel_rfl


set_option maxRecDepth 8000 in
theorem is_same (a : Addr) (w : World) :
    Calls Tryz.prog 25 #[.iface 235 (.pointer (some a)), .iface 235 (.pointer (some a))] w fun e w' => e = .returned (.bool true) ∧ w' = w := by
  obtain ⟨i, hi, hcmp⟩ := Option.map_eq_some_iff.1 Tryz.isComp
  obtain ⟨j, hj, hjs⟩ := Option.map_eq_some_iff.1 Tryz.isSize
  have h8 := @run_callFunc_extern Tryz.prog 75 _ Extern.ReflectliteType.typeOf Tryz.func75 (by kernel_rfl) (by kernel_rfl) (by kernel_rfl) (by kernel_rfl)
  have h32 := @run_callFunc_extern Tryz.prog 230 _ (Extern.ReflectliteType.method compF) Tryz.func230 (by kernel_rfl) (by kernel_rfl) (by kernel_rfl) (by kernel_rfl)
  have tT := Tryz.isTypeOf
  have cT := Tryz.isComparable
  have mR := Tryz.isMethodComparable
  have heq := run_eql_iface_ptr_same (P := Tryz.prog) w a Tryz.underlying26 Tryz.underlying235 hi hcmp hj
  go_enter Tryz.func25, Tryz.ntmps25
  go_wp2
  refine wp_loop_rounds 1 ?_
  rw [rounds_succ]
  go_wp2
  go_ret
  exact ⟨rfl, rfl⟩

set_option maxRecDepth 8000 in
/-- errors.Is(x, y): two errors of errors.New's make -/
theorem is_other (a b : Addr) (ca cb : Array Value) (ta tb : TypeId) (w : World) (hne : a ≠ b) (ha : w.heap[a.block]? = some (.cells ca ta (0, 0))) (hb : w.heap[b.block]? = some (.cells cb tb (0, 0))) :
    Calls Tryz.prog 25 #[.iface 235 (.pointer (some a)), .iface 235 (.pointer (some b))] w fun e w' => e = .returned (.bool false) ∧ w' = w := by
  obtain ⟨i, hi, hcmp⟩ := Option.map_eq_some_iff.1 Tryz.isComp
  obtain ⟨j, hj, hjs⟩ := Option.map_eq_some_iff.1 Tryz.isSize
  have h8 := @run_callFunc_extern Tryz.prog 75 _ Extern.ReflectliteType.typeOf Tryz.func75 (by kernel_rfl) (by kernel_rfl) (by kernel_rfl) (by kernel_rfl)
  have h32 := @run_callFunc_extern Tryz.prog 230 _ (Extern.ReflectliteType.method compF) Tryz.func230 (by kernel_rfl) (by kernel_rfl) (by kernel_rfl) (by kernel_rfl)
  have tT := Tryz.isTypeOf
  have cT := Tryz.isComparable
  have mR := Tryz.isMethodComparable
  have nE := Tryz.noIsE
  have uE := Tryz.noUnwrapE
  have vE := Tryz.noUnwrapsE
  have heq := run_eql_iface_ptr_other (P := Tryz.prog) w Tryz.underlying26 Tryz.underlying235 hi hcmp hj (by rw [hjs]; decide) hne ha hb
  go_enter Tryz.func25, Tryz.ntmps25
  go_wp2
  refine wp_loop_rounds 1 ?_
  rw [rounds_succ]
  go_wp2
  go_ret
  exact ⟨rfl, rfl⟩

set_option maxRecDepth 8000 in
/-- errors.Is(f, x), f a *api.Fault that bears x -/
theorem is_fault_same (pb po : Nat) (b : Addr) (w : World) (h1 : w.cell? ⟨pb, po + 1, none⟩ = some (.iface 235 (.pointer (some b)))) :
    Calls Tryz.prog 25 #[.iface 69 (.pointer (some ⟨pb, po, none⟩)), .iface 235 (.pointer (some b))] w fun e w' => e = .returned (.bool true) ∧ w' = w := by
  obtain ⟨i, hi, hcmp⟩ := Option.map_eq_some_iff.1 Tryz.isComp
  obtain ⟨j, hj, hjs⟩ := Option.map_eq_some_iff.1 Tryz.isSize
  have h8 := @run_callFunc_extern Tryz.prog 75 _ Extern.ReflectliteType.typeOf Tryz.func75 (by kernel_rfl) (by kernel_rfl) (by kernel_rfl) (by kernel_rfl)
  have h32 := @run_callFunc_extern Tryz.prog 230 _ (Extern.ReflectliteType.method compF) Tryz.func230 (by kernel_rfl) (by kernel_rfl) (by kernel_rfl) (by kernel_rfl)
  have tT := Tryz.isTypeOf
  have cT := Tryz.isComparable
  have mR := Tryz.isMethodComparable
  have nE := Tryz.noIsE
  have uE := Tryz.noUnwrapE
  have vE := Tryz.noUnwrapsE
  have nF := Tryz.noIsF
  have uF := Tryz.hasUnwrapF
  have mU := Tryz.methodUnwrap
  have heq := run_eql_iface_ptr_same (P := Tryz.prog) w b Tryz.underlying26 Tryz.underlying235 hi hcmp hj
  have hty := run_eql_iface_types (P := Tryz.prog) 69 235 (.pointer (some ⟨pb, po, none⟩)) (.pointer (some b)) Tryz.underlying26 (by decide) w
  go_enter Tryz.func25, Tryz.ntmps25
  go_wp2
  refine wp_loop_rounds 2 ?_
  rw [rounds_succ]
  go_wp2
  rw [rounds_succ]
  go_wp2
  go_ret
  exact ⟨rfl, rfl⟩

set_option maxRecDepth 8000 in
/-- errors.Is(f, x), f a *api.Fault that bears another error of errors.New's make -/
theorem is_fault_other (pb po : Nat) (b a : Addr) (ca cb : Array Value) (ta tb : TypeId) (w : World) (h1 : w.cell? ⟨pb, po + 1, none⟩ = some (.iface 235 (.pointer (some a)))) (hne : a ≠ b) (ha : w.heap[a.block]? = some (.cells ca ta (0, 0))) (hb : w.heap[b.block]? = some (.cells cb tb (0, 0))) :
    Calls Tryz.prog 25 #[.iface 69 (.pointer (some ⟨pb, po, none⟩)), .iface 235 (.pointer (some b))] w fun e w' => e = .returned (.bool false) ∧ w' = w := by
  obtain ⟨i, hi, hcmp⟩ := Option.map_eq_some_iff.1 Tryz.isComp
  obtain ⟨j, hj, hjs⟩ := Option.map_eq_some_iff.1 Tryz.isSize
  have h8 := @run_callFunc_extern Tryz.prog 75 _ Extern.ReflectliteType.typeOf Tryz.func75 (by kernel_rfl) (by kernel_rfl) (by kernel_rfl) (by kernel_rfl)
  have h32 := @run_callFunc_extern Tryz.prog 230 _ (Extern.ReflectliteType.method compF) Tryz.func230 (by kernel_rfl) (by kernel_rfl) (by kernel_rfl) (by kernel_rfl)
  have tT := Tryz.isTypeOf
  have cT := Tryz.isComparable
  have mR := Tryz.isMethodComparable
  have nE := Tryz.noIsE
  have uE := Tryz.noUnwrapE
  have vE := Tryz.noUnwrapsE
  have nF := Tryz.noIsF
  have uF := Tryz.hasUnwrapF
  have mU := Tryz.methodUnwrap
  have heq := run_eql_iface_ptr_other (P := Tryz.prog) w Tryz.underlying26 Tryz.underlying235 hi hcmp hj (by rw [hjs]; decide) hne ha hb
  have hty := run_eql_iface_types (P := Tryz.prog) 69 235 (.pointer (some ⟨pb, po, none⟩)) (.pointer (some b)) Tryz.underlying26 (by decide) w
  go_enter Tryz.func25, Tryz.ntmps25
  go_wp2
  refine wp_loop_rounds 2 ?_
  rw [rounds_succ]
  go_wp2
  rw [rounds_succ]
  go_wp2
  go_ret
  exact ⟨rfl, rfl⟩
end Go.Proofs.YtajnfkmkombajabGreatDoor
namespace Go.Proofs.YtajnfkmkombajabGreatDoor
open Go.RowKit

/-- all blocks that were there are as they were, but for those of F; new ones may have come -/
structure Keep (F : Nat → Prop) (w w' : World) : Prop where
  os : w'.os = w.os
  tape : w'.tape = w.tape
  output : w'.output = w.output
  size : w.heap.size ≤ w'.heap.size
  block : ∀ k, k < w.heap.size → ¬ F k → w'.heap[k]? = w.heap[k]?

theorem Keep.refl (F : Nat → Prop) (w : World) : Keep F w w := ⟨rfl, rfl, rfl, Nat.le_refl _, fun _ _ _ => rfl⟩
theorem Keep.trans {F : Nat → Prop} {a b c : World} (h : Keep F a b) (k : Keep F b c) : Keep F a c :=
  ⟨k.os.trans h.os, k.tape.trans h.tape, k.output.trans h.output, Nat.le_trans h.size k.size, fun i hi hF => (k.block i (Nat.lt_of_lt_of_le hi h.size) hF).trans (h.block i hi hF)⟩
/-- the second step may write what is new since the first one's beginning -/
theorem Keep.andThen {F G : Nat → Prop} {a b c : World} (h : Keep F a b) (k : Keep G b c) (hG : ∀ i, G i → F i ∨ a.heap.size ≤ i) : Keep F a c :=
  ⟨k.os.trans h.os, k.tape.trans h.tape, k.output.trans h.output, Nat.le_trans h.size k.size, fun i hi hF => (k.block i (Nat.lt_of_lt_of_le hi h.size) (fun hg => (hG i hg).elim hF (by omega))).trans (h.block i hi hF)⟩
theorem Keep.mono {F G : Nat → Prop} {w w' : World} (h : Keep F w w') (hF : ∀ k, F k → G k) : Keep G w w' := ⟨h.os, h.tape, h.output, h.size, fun k hk hg => h.block k hk (fun hf => hg (hF k hf))⟩
theorem Keep.drew {F : Nat → Prop} {a w : World} (h : Keep F a w) : Keep F a w.drew := ⟨h.os, h.tape, h.output, h.size, h.block⟩
theorem Keep.drewN {F : Nat → Prop} {a w : World} (h : Keep F a w) (n : Nat) : Keep F a (w.drewN n) := ⟨h.os, h.tape, h.output, h.size, h.block⟩
theorem Keep.alloc {F : Nat → Prop} {a w : World} (h : Keep F a w) (o : Obj) : Keep F a (w.alloc o) :=
  ⟨h.os, h.tape, h.output, by have := h.size; simp; omega, fun k hk hF => by rw [Below.heap_alloc _ _ _ (Nat.lt_of_lt_of_le hk h.size)]; exact h.block k hk hF⟩
theorem Keep.setCell {F : Nat → Prop} {a w : World} (h : Keep F a w) {p : Addr} (hp : F p.block ∨ a.heap.size ≤ p.block) (u : Value) : Keep F a (w.setCell p u) :=
  ⟨h.os, h.tape, h.output, by have := h.size; simp [World.setCell]; exact this, fun k hk hF => by
    rw [Below.heap_setCell _ _ _ _ (by rintro rfl; exact hp.elim hF (by omega))]; exact h.block k hk hF⟩
/-- a store into the one block -/
theorem Keep.put {b o : Nat} {a w : World} (h : Keep (· = b) a w) (u : Value) : Keep (· = b) a (w.setCell ⟨b, o, none⟩ u) := h.setCell (p := ⟨b, o, none⟩) (.inl rfl) u
theorem Keep.grown {F : Nat → Prop} {a w w' : World} {row : Option Nat} (h : Keep F a w) (hg : w.grownBy w' row) (hr : ∀ k, row = some k → F k ∨ a.heap.size ≤ k) : Keep F a w' :=
  ⟨hg.os.trans h.os, hg.tape.trans h.tape, hg.output.trans h.output, Nat.le_trans h.size hg.size, fun k hk hF =>
    (hg.block k (Nat.lt_of_lt_of_le hk h.size) (fun e => (hr k e.symm).elim hF (by omega))).trans (h.block k hk hF)⟩
theorem Keep.of_below {F : Nat → Prop} {w w' : World} (h : Below w.heap.size w w') : Keep F w w' := ⟨h.os, h.tape, h.output, h.size, fun k hk _ => h.block k hk⟩
theorem Keep.below {F : Nat → Prop} {B : Nat} {w w' : World} (h : Keep F w w') (hB : B ≤ w.heap.size) (hF : ∀ k, F k → B ≤ k) : Below B w w' :=
  ⟨h.os, h.tape, h.output, h.size, fun k hk => h.block k (by omega) (fun hf => by have := hF k hf; omega)⟩
/-- a chain of steps below a number -/
theorem Keep.after {F : Nat → Prop} {a b c : World} (h : Below a.heap.size a b) (k : Keep F b c) (hF : ∀ i, F i → a.heap.size ≤ i) : Below a.heap.size a c :=
  h.trans (k.below h.size hF)
theorem Keep.heap {F : Nat → Prop} {w w' : World} (h : Keep F w w') {k : Nat} {o : Obj} (hk : w.heap[k]? = some o) (hF : ¬ F k) : w'.heap[k]? = some o :=
  (h.block k (lt_of_block hk) hF).trans hk
theorem Keep.cell {F : Nat → Prop} {w w' : World} (h : Keep F w w') {p : Addr} (hp : p.block < w.heap.size) (hF : ¬ F p.block) : w'.cell? p = w.cell? p := World.cell?_of_block (w := w) (h.block p.block hp hF)
theorem Keep.frozen {F : Nat → Prop} {w w' : World} (h : Keep F w w') {p : Addr} (hp : p.block < w.heap.size) (hF : ¬ F p.block) : w'.frozen? p = w.frozen? p := World.frozen?_of_block (w := w) (h.block p.block hp hF)
theorem below_heap {B : Nat} {w w' : World} (h : Below B w w') {k : Nat} {o : Obj} (hk : w.heap[k]? = some o) (hB : k < B) : w'.heap[k]? = some o := (h.block k hB).trans hk

/-- block b is a row of these values -/
def RowAt (b : Nat) (T : TypeId) (vs : List Value) (w : World) : Prop := w.heap[b]? = some (.cells vs.toArray T (0, 0))
theorem RowAt.lt {b : Nat} {T : TypeId} {vs : List Value} {w : World} (h : RowAt b T vs w) : b < w.heap.size := lt_of_block h
theorem RowAt.cell {b : Nat} {T : TypeId} {vs : List Value} {w : World} (h : RowAt b T vs w) (i : Nat) : w.cell? ⟨b, i, none⟩ = vs[i]? := by
  unfold RowAt at h; simp [World.cell?, h]
theorem RowAt.frozen {b : Nat} {T : TypeId} {vs : List Value} {w : World} (h : RowAt b T vs w) (i : Nat) : w.frozen? ⟨b, i, none⟩ = false := by
  unfold RowAt at h; simp [World.frozen?, h]
theorem RowAt.drewN {b : Nat} {T : TypeId} {vs : List Value} {w : World} (h : RowAt b T vs w) (n : Nat) : RowAt b T vs (w.drewN n) := h
theorem RowAt.alloc {b : Nat} {T : TypeId} {vs : List Value} {w : World} (h : RowAt b T vs w) (o : Obj) : RowAt b T vs (w.alloc o) :=
  (Below.heap_alloc w o b h.lt).trans h
theorem RowAt.keep {F : Nat → Prop} {b : Nat} {T : TypeId} {vs : List Value} {w w' : World} (h : RowAt b T vs w) (k : Keep F w w') (hF : ¬ F b) : RowAt b T vs w' := k.heap h hF
theorem RowAt.below {B b : Nat} {T : TypeId} {vs : List Value} {w w' : World} (h : RowAt b T vs w) (k : Below B w w') (hB : b < B) : RowAt b T vs w' := below_heap k h hB
theorem RowAt.set {b : Nat} {T : TypeId} {vs : List Value} {w : World} (h : RowAt b T vs w) (i : Nat) (v : Value) : RowAt b T (vs.set i v) (w.setCell ⟨b, i, none⟩ v) := by
  have hlt := h.lt
  have h' : w.heap[b] = .cells vs.toArray T (0, 0) := by unfold RowAt at h; simpa [Array.getElem?_eq_getElem hlt] using h
  show (w.heap.modify b _)[b]? = _
  rw [Array.getElem?_eq_getElem (by simpa using hlt), Array.getElem_modify_self, h']
  simp
theorem RowAt.set_other {b : Nat} {T : TypeId} {vs : List Value} {w : World} (h : RowAt b T vs w) {p : Addr} (hp : p.block ≠ b) (v : Value) : RowAt b T vs (w.setCell p v) :=
  (Below.heap_setCell w p v b (fun e => hp e.symm)).trans h
theorem RowAt.new (w : World) (T : TypeId) (vs : List Value) : RowAt w.heap.size T vs (w.alloc (.cells vs.toArray T)) := heap_alloc_new w _
/-- a slice over a whole block of numbers -/
theorem RdI.of_rowAt {k : IntKind} {g : Nat} {T : TypeId} {zs : List Int} {w : World} (h : RowAt g T (zs.map (Value.int k)) w) (hm : zs.length ≤ maxLen) : RdI k w (some ⟨g, 0, none⟩) zs.length zs.length zs :=
  ⟨rfl, Nat.le_refl _, hm, fun h => (by cases h), fun i hi => ⟨g, 0, rfl, by rw [Nat.zero_add, h.cell, List.getElem?_map, List.getElem?_eq_getElem hi]; simp [hi]⟩⟩
end Go.Proofs.YtajnfkmkombajabGreatDoor
