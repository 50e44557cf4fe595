/- Evidence as a map's key: how it reads; a look-up of a bool in a map of the call's own. -/
import Derived.Test.YtajnfkmkombajabDoorKeep
import Derived.Test.YtajnfkmkombajabDoorErr
import Derived.Test.YtajnfkmkombajabDoorPlChain
import Derived.Maps.OwnOps
import Derived.Maps.OwnSet
import Derived.DeepKeys4
set_option linter.unusedVariables false
set_option linter.unusedSimpArgs false
namespace Go.Proofs.YtajnfkmkombajabDoor
open Go.RowKit Go.Maps

theorem laidOut : laidOutB Tryd.prog = true := by kernel_rfl
theorem keyE : Keyed Tryd.prog 28 :=
  Keyed.of_law (deep_law_laid laidOut (m := 2) (by omega) (of_decide_eq_true (by kernel_rfl)) (by kernel_rfl) (by rw [Tryd.underlying28]))
theorem zeroB (w : World) : (zeroValue 4).run Tryd.prog w = .ok (.bool false) w := by kernel_rfl

def EV.wf (e : EV) : Prop := (Lit.int .i64 e.b).wf = true ∧ (Lit.int .i64 e.c).wf = true ∧ (Lit.int .i64 e.n).wf = true
def evV (e : EV) : Value := .agg #[.int .i64 e.b, .int .i64 e.c, .int .i64 e.n]
def evK (e : EV) : Lit := .string (keyBytes [.int .i64 e.b, .int .i64 e.c, .int .i64 e.n])

theorem keyOf_ev {e : EV} (h : e.wf) : keyOf Tryd.prog 28 (evV e) = some (evK e) := by
  obtain ⟨m, hm⟩ : ∃ m, Tryd.prog.types.size = m + 1 := Nat.exists_eq_succ_of_ne_zero (by have : 0 < Tryd.prog.types.size := of_decide_eq_true (by kernel_rfl); omega)
  have hkt : Tryd.prog.keyType 28 = true := by kernel_rfl
  have hce : Tryd.prog.cellsOf 28 = 3 := by kernel_rfl
  have hci : Tryd.prog.cellsOf 3 = 1 := by kernel_rfl
  have hu := Tryd.underlying28
  have hui := Tryd.underlying3
  obtain ⟨h1, h2, h3⟩ := h
  unfold keyOf evV evK
  simp only [hu]
  rw [if_pos (by simp [hkt, Value.formed, hu, hce]), hm]
  unfold Program.keyLits
  simp only [hu, Value.cells]
  simp [hce, hci, Program.keyLits, hui, h1, h2, h3]
theorem evK_inj {e f : EV} (he : e.wf) (hf : f.wf) (h : evK e = evK f) : e = f := by
  have h1 := keyOf_ev he
  have h2 := keyOf_ev hf
  rw [← h] at h2
  have := keyE.inj h1 h2
  simp only [evV, Value.agg.injEq, Array.mk.injEq, List.cons.injEq, Value.int.injEq, true_and, and_true] at this
  obtain ⟨a, b, c⟩ := this
  cases e; cases f; simp_all

section
variable {H : Type} {P : Program} {k e t : TypeId} {w : World} {b n : Nat} {D : DataW H}
theorem plainElem_bool_inv (he : P.underlying e = some .bool) {v : Value} {z : DataW H × List MemPlace} (h : plainElem P e v = some z) : ∃ x, v = .bool x ∧ z = (.lit (.bool x), []) := by
  unfold plainElem at h
  rw [he] at h
  cases v <;> simp at h
  exact ⟨_, rfl, h.symm⟩
theorem lookup_bool (h : w.ownsMap P k (plainElem P e) b n D) (K : Keyed P k) (ht : P.underlying t = some (.map k e)) (he : P.underlying e = some .bool) (hz : (zeroValue e).run P w = .ok (.bool false) w)
    {key : Value} {kl : Lit} (hkey : keyOf P k key = some kl) : ∃ c, (Instr.lookup t (.map (some b)) key false).run P w = .ok (.bool c) w ∧ D.atKey kl (.lit (.bool false)) = .lit (.bool c) := by
  obtain ⟨v, ps, hrun, hv⟩ := h.lookup K ht hz (plainElem_bool he false) hkey
  obtain ⟨c, rfl, hc⟩ := plainElem_bool_inv he hv
  simp only [Prod.mk.injEq] at hc
  exact ⟨c, hrun, hc.1⟩
theorem wpList_lookup_own_bool {ops : Array Oper} {rest : List Oper} {o : Oper} {a : Act} {Q : Exit → Act → World → Prop}
    (hg : o.guard = none) (m x : Operand) (t : TypeId) (hop : o.op = Op.lookup t m x false) (K : Keyed P k) (ht : P.underlying t = some (.map k e)) (he : P.underlying e = some .bool) (hz : (zeroValue e).run P w = .ok (.bool false) w) (b n : Nat) (D : DataW H)
    (hm : a.eval m = .map (some b)) (hown : w.ownsMap P k (plainElem P e) b n D) (key : Value) (kl : Lit) (hx : a.eval x = key) (hkey : keyOf P k key = some kl) (c : Bool) (hc : D.atKey kl (.lit (.bool false)) = .lit (.bool c))
    (hK : wpList P ops Q rest (a.put o.dst (.bool c)) w) : wpList P ops Q (o :: rest) a w := by
  refine wpList_plain hg fun K' hK' => ?_
  obtain ⟨c', hrun, hat⟩ := lookup_bool hown K ht he hz hkey
  have hcc : c' = c := by rw [hc] at hat; simpa using hat.symm
  subst hcc
  unfold Oper.wp
  simp [execOp, hop, hm, hx, hrun, Result.andThen]
  exact hK' _ _ hK
end
end Go.Proofs.YtajnfkmkombajabDoor
