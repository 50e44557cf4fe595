/- Small words used in all walks: a slice that reads as numbers; what is kept below the heap's size. No program in sight. -/
import Derived.WalkKit
import Derived.ProofKit
import Derived.WalkSmall
import Derived.Lib.Hide
import Derived.Maps.AppendAt
import Derived.Deep.AppendLies
import Derived.Deep.RegionWith
set_option linter.unusedVariables false
set_option linter.unusedSimpArgs false
namespace Go.Proofs.YtajnfkmkombajaaDoor
open Go.RowKit

/-- The slice value '.slice ao len cap' reads, in w, as the numbers zs of kind k. -/
structure RdI (k : IntKind) (w : World) (ao : Option Addr) (len cap : Nat) (zs : List Int) : Prop where
  size : zs.length = len
  lc : len ≤ cap
  cm : cap ≤ maxLen
  nul : ao = none → cap = 0
  cells : ∀ i, i < len → ∃ b off, ao = some ⟨b, off, none⟩ ∧ w.cell? ⟨b, off + i, none⟩ = some (.int k (zs.getD i 0))

theorem RdI.nil (k : IntKind) (w : World) : RdI k w none 0 0 [] := ⟨rfl, Nat.le_refl _, by simp, fun _ => rfl, fun i h => by omega⟩

theorem RdI.of_row {k : IntKind} {w : World} {a : Option Addr} {len cap : Nat} {zs : List Int} (h : (a = none ∧ len = 0 ∧ cap = 0 ∧ zs = []) ∨
    ∃ x, a = some x ∧ len ≤ cap ∧ cap ≤ maxLen ∧ zs.length = cap ∧ (∀ i, i < zs.length → w.cell? (x.add i) = some (.int k (zs.getD i 0))) ∧ ∀ n ∈ zs, (Lit.int k n).wf = true) : RdI k w a len cap (zs.take len) := by
  rcases h with ⟨rfl, rfl, rfl, rfl⟩ | ⟨x, rfl, hl, hm, hz, hc, _⟩
  · exact RdI.nil k w
  · refine ⟨by rw [List.length_take]; omega, hl, hm, fun h => (by cases h), fun i hi => ?_⟩
    have hci := hc i (by omega)
    have hs : (x.add i).spot = none := World.cell?_spot hci
    obtain ⟨b, off, spot⟩ := x
    have hs0 : spot = none := by
      by_cases h0 : i = 0
      · subst h0; simpa [Addr.add] using hs
      · have h0c := World.cell?_spot (hc 0 (by omega)); simpa [Addr.add] using h0c
    subst hs0
    refine ⟨b, off, rfl, ?_⟩
    have e : (⟨b, off, none⟩ : Addr).add i = ⟨b, off + i, none⟩ := by unfold Addr.add; split <;> simp_all
    rw [e] at hci
    rw [hci]; simp [List.getD_eq_getElem?_getD, List.getElem?_take, hi]

theorem RdI.split {k : IntKind} {w : World} {ao : Option Addr} {len cap : Nat} {zs : List Int} (h : RdI k w ao len cap zs) :
    (len = 0 ∧ zs = []) ∨ (0 < len ∧ ∃ b off, ao = some ⟨b, off, none⟩ ∧ b < w.heap.size ∧ ∀ i, i < len → w.cell? ⟨b, off + i, none⟩ = some (.int k (zs.getD i 0))) := by
  rcases Nat.eq_zero_or_pos len with h0 | h0
  · exact .inl ⟨h0, List.eq_nil_of_length_eq_zero (by rw [h.size, h0])⟩
  · obtain ⟨b, off, ha, hc⟩ := h.cells 0 h0
    refine .inr ⟨h0, b, off, ha, World.block_lt_of_cell? w _ hc, fun i hi => ?_⟩
    obtain ⟨b', off', ha', hc'⟩ := h.cells i hi
    rw [ha] at ha'; cases ha'; exact hc'

theorem RdI.below {k : IntKind} {w w' : World} {ao : Option Addr} {len cap : Nat} {zs : List Int} (h : RdI k w ao len cap zs) (hb : Below w.heap.size w w') : RdI k w' ao len cap zs := by
  refine ⟨h.size, h.lc, h.cm, h.nul, fun i hi => ?_⟩
  obtain ⟨b, off, ha, hc⟩ := h.cells i hi
  exact ⟨b, off, ha, by rw [hb.cell (p := ⟨b, off + i, none⟩) (World.block_lt_of_cell? w _ hc)]; exact hc⟩

theorem RdI.of_own {k : IntKind} {w : World} {base e : Nat} {ao : Option Addr} {len cap : Nat} {zs : List Int} (h : w.ownsRow base e 1 (.slice ao len cap) len (zs.map (Value.int k))) : RdI k w ao len cap zs := by
  obtain ⟨h1, h2⟩ := h
  have hl : zs.length = len := by simpa using h1
  rcases h2 with ⟨hv, hn⟩ | ⟨g, cap', cur, hv, hg, hh, hnc, hcm, hcs, ht⟩
  · cases hv
    exact ⟨hl, Nat.le_refl _, by simp, fun _ => rfl, fun i h => by omega⟩
  · cases hv
    refine ⟨hl, hnc, hcm, fun h => (by cases h), fun i hi => ⟨g, 0, rfl, ?_⟩⟩
    have hi' : i < zs.length := by omega
    have : cur[i]? = some (.int k (zs.getD i 0)) := by
      have h3 : (cur.toList.take (len * 1))[i]? = some (.int k (zs.getD i 0)) := by
        rw [ht]; simp [hi']
      rw [List.getElem?_take] at h3
      split at h3
      · simpa using h3
      · cases h3
    simp [World.cell?, hh, this]

theorem own_cells {w : World} {base e n : Nat} {ao : Option Addr} {cap : Nat} {xs : List Value} (h : w.ownsRow base e 1 (.slice ao n cap) n xs) :
    ∃ g : Nat, 0 < n → ao = some ⟨g, 0, none⟩ ∧ base ≤ g ∧ g < w.heap.size ∧ n ≤ cap ∧ ∀ q, q < n → w.cell? ⟨g, q, none⟩ = xs[q]? := by
  rcases h.2 with ⟨hv, hn⟩ | ⟨g, cap', cur, hv, hg, hh, hnc, hcm, hcs, ht⟩
  · exact ⟨0, fun h0 => by omega⟩
  · cases hv
    refine ⟨g, fun _ => ⟨rfl, hg, (Array.getElem?_eq_some_iff.1 hh).1, hnc, fun q hq => ?_⟩⟩
    rw [← ht, List.getElem?_take, if_pos (by omega)]
    simp [World.cell?, hh]

theorem set_other {w : World} {b o b' o' : Nat} {v : Value} (h : b ≠ b') : (w.setCell ⟨b, o, none⟩ v).cell? ⟨b', o', none⟩ = w.cell? ⟨b', o', none⟩ :=
  World.cell?_setCell_other _ _ _ _ (fun e => h (congrArg Addr.block e))

theorem cell_one_at (w : World) (x : Value) (t g : Nat) (hg : g = w.heap.size) : ∀ j u, [x][j]? = some u → (w.alloc (.cells #[x] t)).cell? ((⟨g, 0, none⟩ : Addr).add j) = some u := by
  subst hg; exact cell_one_new w x t

theorem own_shape {w : World} {base e size n : Nat} {v : Value} {xs : List Value} (h : w.ownsRow base e size v n xs) : ∃ ao cap, v = .slice ao n cap := by
  rcases h.2 with ⟨hv, hn⟩ | ⟨g, cap, cur, hv, _⟩
  · exact ⟨none, 0, by rw [hv, hn]⟩
  · exact ⟨some ⟨g, 0, none⟩, cap, hv⟩

theorem own_block {w : World} {base e size n : Nat} {v : Value} {xs : List Value} (h : w.ownsRow base e size v n xs) {k : Nat} (hk : k < base) : some k ≠ v.ownBlock := by
  rcases h.2 with ⟨hv, _⟩ | ⟨g, cap, cur, hv, hg, _⟩
  · rw [hv]; intro e; cases e
  · rw [hv]; intro e; simp [Value.ownBlock] at e; omega

/-- l[:h] of a slice that reads as numbers -/
theorem RdI.hi {k : IntKind} {P : Program} {t : TypeId} (ht : P.underlying t = some (.slice (P.elem t))) (hsz : ∀ wx : World, (sizeOf (P.elem t)).run P wx = .ok 1 wx) {w : World} {ao : Option Addr} {len cap : Nat} {zs : List Int} (R : RdI k w ao len cap zs) (h : Nat) (hh : h ≤ len) (kh : IntKind) :
    (∀ wx : World, (Instr.slice t (.slice ao len cap) none (some (.int kh h)) none).run P wx = .ok (.slice ao h cap) wx) ∧ RdI k w ao h cap (zs.take h) := by
  have hc := R.lc
  refine ⟨fun wx => ?_, ⟨by rw [List.length_take, R.size]; omega, by omega, R.cm, R.nul, fun i hi => ?_⟩⟩
  · rw [run_slice_h wx t ao len cap ht kh h (by omega) (by omega), hsz]
    simp only [Result.andThen, sliced, Int.toNat_natCast, Nat.zero_mul, Nat.sub_zero]
    congr 2
    split
    · rfl
    · cases ao <;> simp [Addr.add]
  · obtain ⟨b, off, ha, hcl⟩ := R.cells i (by omega)
    exact ⟨b, off, ha, by rw [hcl]; simp [List.getD_eq_getElem?_getD, List.getElem?_take, hi]⟩

/-- l[lo:] of a slice that reads as numbers -/
theorem RdI.lo {k : IntKind} {P : Program} {t : TypeId} (ht : P.underlying t = some (.slice (P.elem t))) (hsz : ∀ wx : World, (sizeOf (P.elem t)).run P wx = .ok 1 wx) {w : World} {ao : Option Addr} {len cap : Nat} {zs : List Int} (R : RdI k w ao len cap zs) (l : Nat) (hl : l ≤ len) (kl : IntKind) :
    ∃ a', (∀ wx : World, (Instr.slice t (.slice ao len cap) (some (.int kl l)) none none).run P wx = .ok (.slice a' (len - l) (cap - l)) wx) ∧ RdI k w a' (len - l) (cap - l) (zs.drop l) := by
  have hc := R.lc
  have hm := R.cm
  refine ⟨if cap = l then ao else ao.map (·.add (l * 1)), fun wx => ?_, ⟨by rw [List.length_drop, R.size], by omega, by omega, fun h => ?_, fun i hi => ?_⟩⟩
  · rw [run_slice_l wx t ao len cap ht kl l (by omega) (by omega), hsz]
    simp only [Result.andThen, sliced, Int.toNat_natCast]
  · split at h
    · have := R.nul h; omega
    · cases ao with
      | none => have := R.nul rfl; omega
      | some x => cases h
  · obtain ⟨b, off, ha, hcl⟩ := R.cells (l + i) (by omega)
    refine ⟨b, off + l, ?_, ?_⟩
    · rw [if_neg (by omega), ha]
      simp only [Option.map_some, Nat.mul_one, Addr.add]
      split
      · simp_all
      · rfl
    · rw [Nat.add_assoc, hcl]; simp [List.getD_eq_getElem?_getD, List.getElem?_drop]

theorem _root_.Go.RowKit.Below.drewN {B : Nat} {a w : World} (h : Below B a w) (n : Nat) : Below B a (w.drewN n) := ⟨h.os, h.tape, h.output, h.size, h.block⟩
theorem btrans {a b c : World} (h : Below a.heap.size a b) (k : Below b.heap.size b c) : Below a.heap.size a c := h.trans (k.mono h.size)

theorem below_of {W w' : World} (h : Below W.heap.size W w') : (∀ b o, b < W.heap.size → w'.cell? ⟨b, o, none⟩ = W.cell? ⟨b, o, none⟩) ∧ (∀ b o, b < W.heap.size → w'.frozen? ⟨b, o, none⟩ = W.frozen? ⟨b, o, none⟩) :=
  ⟨fun b o hb => h.cell (p := ⟨b, o, none⟩) hb, fun b o hb => h.frozen (p := ⟨b, o, none⟩) hb⟩
end Go.Proofs.YtajnfkmkombajaaDoor
