/-
  Contracts: stake.Total; what a range over a map of waiting pools meets.
  The listed errors stand while blocks of others turn.
-/
import Derived.Test.YtajnfkmkombajaaGreatDoorQSP08
import Derived.Maps.RangeWalk
import Derived.Test.YtajnfkmkombajaaGreatDoorQSP01
set_option linter.unusedVariables false
set_option linter.unusedSimpArgs false
set_option linter.unusedVariables false
namespace Go.Proofs.YtajnfkmkombajaaGreatDoor
open Go.RowKit Go.Maps
theorem keyInt_inv : ∀ key kl, keyOf Tryz.prog 3 key = some kl → ∃ x, key = Value.int .i64 x := fun key kl hkey => by
 obtain ⟨x, rfl, _⟩ := Maps.keyOf_int_inv Tryz.underlying3 hkey; exact ⟨x, rfl⟩
def blkV (b : Nat) : Value := .pointer (some ⟨b, 0, none⟩)
theorem blkV_inv : ∀ v y, blkElem v = some y → ∃ c, v = blkV c := fun v y hv => by
 obtain ⟨c, rfl, _⟩ := blkElem_inv hv; exact ⟨c, rfl⟩
theorem keyInt_is {x : Int} {kl : Lit} (h : keyOf Tryz.prog 3 (.int .i64 x) = some kl) : kl = .int .i64 x ∧ (Lit.int .i64 x).wf = true := by
 obtain ⟨x', ex, rfl, hw⟩ := Maps.keyOf_int_inv Tryz.underlying3 h
 cases ex; exact ⟨rfl, hw⟩
theorem wait_start {L : Lay} {s : SS} (h : s.Ok) {k : Nat} {D : DataW Unit} (hD : ∀ c : Int, D.atKey (.int .i64 c) .nil = waitD L k c (s.find k c)) : ∀ x ∈ s.W, dn k (Maps.has D) x.b x.c = dk k x.b x.c := by
 intro x hx
 unfold dn dk
 by_cases h2 : x.b = (k : Int)
 · have hf := SS.find_mem h.apart hx
   rw [h2] at hf
   have hh : Maps.has D (.int .i64 x.c) = true := by
     cases hc : Maps.has D (.int .i64 x.c) with
     | true => rfl
     | false =>
       have h1 := hD x.c
       rw [atKey_of_not_has hc, hf] at h1
       simp [waitD] at h1
   rw [hh, h2]; simp
 · rw [beq_eq_false_iff_ne.2 h2]; simp
theorem wait_entry {L : Lay} {s : SS} {k : Nat} {D : DataW Unit} (hD : ∀ c : Int, D.atKey (.int .i64 c) .nil = waitD L k c (s.find k c)) {x : Int} {c : Nat} {y : DataW Unit × List MemPlace} (hy : blkElem (blkV c) = some y)
   (hat : ∀ zd, D.atKey (.int .i64 x) zd = y.1) : ∃ q, s.find k x = some q ∧ c = L.pb k (some x) := by
 have h1 := hat .nil
 rw [hD x] at h1
 have : y = (.lit (.int .i64 c), []) := by have := hy.symm.trans (blkElem_mk c); cases this; rfl
 subst this
 unfold waitD at h1
 cases hf : s.find k x with
 | none => rw [hf] at h1; simp at h1
 | some q =>
   rw [hf] at h1
   simp only [Option.isSome_some, if_true, DataW.lit.injEq, Lit.int.injEq, true_and] at h1
   exact ⟨q, rfl, by omega⟩
theorem StakesL.grown {sb n : Nat} {L : Lay} {s : SS} {w w' : World} (h : StakesL sb L n s w) {r : Option Nat} (hg : w.grownBy w' r) (hr : ∀ b, r = some b → L.role b = .none) : StakesL sb L n s w' := by
 have hk : Keep (fun b => r = some b) w w' := (Keep.refl _ _).grown hg (fun k hk => .inl hk)
 exact h.keep hk (fun b hb he => hb (hr b he))
theorem idx3 (a0 a1 a2 : Value) (i : Nat) (a : Value) (h : #[a0, a1, a2][i]? = some a) (wx : World) : (Instr.index 141 (.agg #[a0, a1, a2]) (.int .i64 i)).run Tryz.prog wx = .ok a wx := by
 have hi : i < 3 := by have := (Array.getElem?_eq_some_iff.1 h).1; simpa using this
 have hsz : ∀ w : World, (sizeOf 140).run Tryz.prog w = .ok 1 w := fun w => by kernel_rfl
 have hag : ∀ w : World, (isAgg 140).run Tryz.prog w = .ok false w := fun w => by kernel_rfl
 have hi' : (i : Int) < 3 := by omega
 simp [Instr.index, run_underlying Tryz.underlying141, asIntOf, hsz, hag, part, Result.andThen]
 have h' : [a0, a1, a2][i]? = some a := by simpa using h
 rw [if_pos hi, h']; rfl
end Go.Proofs.YtajnfkmkombajaaGreatDoor
namespace Go.Proofs.YtajnfkmkombajaaGreatDoor
open Go.RowKit
theorem Errs.keep {A : Nat → Addr} {S : List Nat} {w w' : World} {F : Nat → Prop} (h : Errs A S w) (k : Keep F w w') (hF : ∀ c ∈ S, ¬ F (gE c)) : Errs A S w' :=
 ⟨fun c hc => by rw [k.cell (p := ⟨gE c, 0, none⟩) (World.block_lt_of_cell? w _ (h.cell c hc)) (hF c hc)]; exact h.cell c hc⟩
theorem Errs.lt {A : Nat → Addr} {S : List Nat} {w : World} (h : Errs A S w) {c : Nat} (hc : c ∈ S) : gE c < w.heap.size := World.block_lt_of_cell? w _ (h.cell c hc)
end Go.Proofs.YtajnfkmkombajaaGreatDoor
