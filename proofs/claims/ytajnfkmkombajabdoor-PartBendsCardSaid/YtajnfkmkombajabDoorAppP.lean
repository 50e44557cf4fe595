/- append of points to a nil slice. -/
import Derived.Test.YtajnfkmkombajabDoorFill
import Derived.Test.YtajnfkmkombajabDoorPlBend
import Derived.Deep.RegionLaw
import Derived.Deep.AppendLies
set_option linter.unusedVariables false
set_option linter.unusedSimpArgs false
namespace Go.Proofs.YtajnfkmkombajabDoor
open Go.RowKit

theorem RdP.of_own {w : World} {base e : Nat} {ao : Option Addr} {len cap : Nat} {l : List (Int × Int)} (hl : l.length = len) (hwf : ∀ p ∈ l, (-9223372036854775808 ≤ p.1 ∧ p.1 ≤ 9223372036854775807) ∧ (-9223372036854775808 ≤ p.2 ∧ p.2 ≤ 9223372036854775807))
    (h : w.ownsRow base e 2 (.slice ao len cap) len (colVs l)) : RdP w ao len cap l := by
  rcases h.2 with ⟨hv, hn⟩ | ⟨g, cap', cur, hv, hg, hh, hnc, hcm, hcs, ht⟩
  · cases hv
    exact ⟨hl, Nat.le_refl _, by simp, fun _ => rfl, hwf, fun i h => by omega⟩
  · cases hv
    refine ⟨hl, hnc, hcm, fun h => (by cases h), hwf, fun i hi => ⟨g, 0, rfl, ?_⟩⟩
    obtain ⟨q1, q2⟩ := colVs_get l i (by omega)
    have hcell : ∀ j, j < len * 2 → w.cell? ⟨g, j, none⟩ = (colVs l)[j]? := fun j hj => by
      rw [← ht, List.getElem?_take, if_pos hj]
      simp [World.cell?, hh]
    rw [Nat.zero_add, hcell _ (by omega), hcell _ (by omega)]
    exact ⟨q1, q2⟩

theorem run_append_points {P : Program} (w : World) (t ty : TypeId) (e : TypeId) (i : TypeInfo) (z : Value) (ht : P.underlying t = some (.slice e)) (hi : P.info? e = some i) (hz : i.zero = some z)
    (hsize : i.size = 2) (hby : i.bytes = 16) (hzs : z.cells.size = 2) (ao : Option Addr) (len cap : Nat) (l : List (Int × Int)) (R : RdP w ao len cap l) (hlen : len ≤ 1000) :
    ∃ ao' cap' w', (Builtin.append_ #[t, t] ty #[.slice none 0 0, .slice ao len cap]).run P w = .ok (.slice ao' len cap') w' ∧ RdP w' ao' len cap' l ∧ Below w.heap.size w w' := by
  cases ao with
  | none =>
    obtain rfl : cap = 0 := R.nul rfl
    obtain rfl : len = 0 := by have := R.lc; omega
    have hrun := run_append_owned_none (P := P) (w := w) w.heap.size t ty e i 2 ht hi (.slice none 0 0) 0 [] (World.ownsRow_nil _ _ _ _)
    exact ⟨none, 0, w, hrun, R, Below.refl _ _⟩
  | some a =>
    have hcs : ∀ j u, (colVs l)[j]? = some u → w.cell? (a.add j) = some u := by
      intro j u hj
      have hjl : j < (colVs l).length := (List.getElem?_eq_some_iff.1 hj).1
      rw [colVs_length, R.size] at hjl
      obtain ⟨b, off, ha, hc0, hc1⟩ := R.cells (j / 2) (by omega)
      cases ha
      obtain ⟨q1, q2⟩ := colVs_get l (j / 2) (by rw [R.size]; omega)
      rw [Addr.add_lit]
      by_cases hp : j % 2 = 0
      · have e1 : j / 2 * 2 = j := by omega
        rw [e1] at hc0 q1
        rw [hc0, ← hj, q1]
      · have e1 : j / 2 * 2 + 1 = j := by omega
        rw [e1] at q2
        rw [show off + j = off + j / 2 * 2 + 1 by omega, hc1, ← hj, q2]
    have hone : ∀ u ∈ colVs l, u.oneCell' = true := by
      intro u hu
      unfold colVs at hu
      obtain ⟨x, _, hx⟩ := List.mem_flatMap.1 hu
      simp at hx
      rcases hx with rfl | rfl <;> rfl
    have hm : len ≤ maxLen := Nat.le_trans R.lc R.cm
    obtain ⟨v', w', hr, h2, h3, _⟩ := run_append_own (P := P) w w.heap.size t ty e i z 2 16 ht hi hz hsize hby hzs (by decide) (.slice none 0 0) 0 [] (World.ownsRow_nil _ _ _ _) a len cap (colVs l) (by rw [colVs_length, R.size, Nat.mul_comm]) hcs hone (by omega) (by omega) (Nat.le_refl _)
    rw [Nat.zero_add, List.nil_append] at h2
    have hb : Below w.heap.size w w' := (Below.refl _ _).grown h3 (Nat.le_refl _) (by intro k h; cases h)
    rcases h2.2 with ⟨hv, hn⟩ | ⟨g, cap', cur, hv, _⟩
    · subst hv; subst hn
      exact ⟨none, 0, w', hr, RdP.of_own R.size R.wf h2, hb⟩
    · subst hv
      exact ⟨_, cap', w', hr, RdP.of_own R.size R.wf h2, hb⟩

theorem wpList_append_points {P : Program} (w : World) {ops : Array Oper} {rest : List Oper} {o : Oper} {a : Act} {Q : Exit → Act → World → Prop} (hgd : o.guard = none) (s x : Operand) (t : TypeId)
    (ho : o.op = .call { callee := .builtin .append, args := #[s, x], argTypes := #[t, t] })
    (e : TypeId) (i : TypeInfo) (z : Value) (ht : P.underlying t = some (.slice e)) (hi : P.info? e = some i) (hz : i.zero = some z)
    (hsize : i.size = 2) (hby : i.bytes = 16) (hzs : z.cells.size = 2) (hs : a.eval s = .slice none 0 0) (ao : Option Addr) (len cap : Nat) (l : List (Int × Int)) (hx : a.eval x = .slice ao len cap) (R : RdP w ao len cap l) (hlen : len ≤ 1000)
    (h : ∀ ao' cap' w', RdP w' ao' len cap' l → Below w.heap.size w w' → wpList P ops Q rest (a.put o.dst (.slice ao' len cap')) w') : wpList P ops Q (o :: rest) a w := by
  refine wpList_plain hgd fun K hK => ?_
  obtain ⟨ao', cap', w', hr, h2, h3⟩ := run_append_points (P := P) w t o.type e i z ht hi hz hsize hby hzs ao len cap l R hlen
  unfold Oper.wp execOp
  simp only [ho, resolve, invoke, builtin, Sem.run_bind, Sem.run_pure, Result.andThen_ok, List.map_toArray, List.map_cons, List.map_nil, hs, hx, hr]
  exact hK _ _ (h ao' cap' w' h2 h3)
theorem step_append_points {P : Program} {ops : Array Oper} {o : Oper} {a : Act} {w : World} {K : Act → World → Prop} {Q : Exit → Act → World → Prop} {E : Prop} (hgd : o.guard = none) (s x : Operand) (t : TypeId)
    (ho : o.op = .call { callee := .builtin .append, args := #[s, x], argTypes := #[t, t] })
    (e : TypeId) (i : TypeInfo) (z : Value) (ht : P.underlying t = some (.slice e)) (hi : P.info? e = some i) (hz : i.zero = some z)
    (hsize : i.size = 2) (hby : i.bytes = 16) (hzs : z.cells.size = 2) (hs : a.eval s = .slice none 0 0) (ao : Option Addr) (len cap : Nat) (l : List (Int × Int)) (hx : a.eval x = .slice ao len cap) (R : RdP w ao len cap l) (hlen : len ≤ 1000)
    (h : ∀ ao' cap' w', RdP w' ao' len cap' l → Below w.heap.size w w' → K (a.put o.dst (.slice ao' len cap')) w') :
    if Region.wanted o (yielded ops a.tmps) = true then Oper.wp P o a w K Q else E := by
  have hw : Region.wanted o (yielded ops a.tmps) = true := by simp [Region.wanted, hgd]
  rw [if_pos hw]
  obtain ⟨ao', cap', w', hr, h2, h3⟩ := run_append_points (P := P) w t o.type e i z ht hi hz hsize hby hzs ao len cap l R hlen
  unfold Oper.wp execOp
  simp only [ho, resolve, invoke, builtin, Sem.run_bind, Sem.run_pure, Result.andThen_ok, List.map_toArray, List.map_cons, List.map_nil, hs, hx, hr]
  exact h ao' cap' w' h2 h3
end Go.Proofs.YtajnfkmkombajabDoor
