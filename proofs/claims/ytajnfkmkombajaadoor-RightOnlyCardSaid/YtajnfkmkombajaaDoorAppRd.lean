/- append onto a slice of the call's own, of whatever slice of numbers. No program in sight. -/
import Derived.Test.YtajnfkmkombajaaDoorOwnSl
import Derived.Laws.AppendOwnNone
set_option linter.unusedVariables false
set_option linter.unusedSimpArgs false
namespace Go.Proofs.YtajnfkmkombajaaDoor
open Go.RowKit

theorem RdI.of_sl {k : IntKind} {base : Nat} {e : TypeId} {w : World} {ao : Option Addr} {n cap : Nat} {zs : List Int} (h : OwnSl base e (.slice ao n cap) (zs.map (Value.int k)) w) : RdI k w ao zs.length cap zs := by
  rcases h with ⟨hv, hn⟩ | ⟨g, off, cap', cur, hv, hb, hg, h1, h2, h3, h4⟩
  · cases hv
    have : zs = [] := by simpa using hn
    subst this
    exact RdI.nil k w
  · cases hv
    simp only [List.length_map] at h1 h4
    refine ⟨rfl, h1, h2, fun h => (by cases h), fun i hi => ⟨g, off, rfl, ?_⟩⟩
    have := sl_cell h4 hi
    simp only [World.cell?, hg]
    simpa [List.getD_eq_getElem?_getD, hi] using this

theorem run_append_rd {P : Program} (w : World) (t ty : TypeId) (base : Nat) (e : TypeId) (i : TypeInfo) (z : Value) (bytes : Nat) (ht : P.underlying t = some (.slice e)) (hi : P.info? e = some i) (hz : i.zero = some z)
    (hsize : i.size = 1) (hby : i.bytes = bytes) (hzs : z.cells.size = 1) (v : Value) (n : Nat) (xs : List Value) (hown : w.ownsRow base e 1 v n xs)
    (k : IntKind) (ao : Option Addr) (len cap : Nat) (zs : List Int) (R : RdI k w ao len cap zs) (h63 : n + len ≤ maxLen) (hbytes : (n + len) * bytes ≤ 140737488355328) (hbase : base ≤ w.heap.size) :
    ∃ v' w', (Builtin.append_ #[t, t] ty #[v, .slice ao len cap]).run P w = .ok v' w' ∧ w'.ownsRow base e 1 v' (n + len) (xs ++ zs.map (Value.int k)) ∧ w.grownBy w' v.ownBlock := by
  have hone : ∀ u ∈ zs.map (Value.int k), u.oneCell' = true := by intro u hu; obtain ⟨x, _, rfl⟩ := List.mem_map.1 hu; rfl
  cases ao with
  | none =>
    obtain rfl : cap = 0 := R.nul rfl
    obtain rfl : len = 0 := by have := R.lc; omega
    obtain rfl : zs = [] := List.eq_nil_of_length_eq_zero R.size
    have hrun := run_append_owned_none (P := P) (w := w) base t ty e i 1 ht hi v n xs hown
    exact ⟨v, w, hrun, by simpa using hown, ⟨rfl, rfl, rfl, Nat.le_refl _, fun _ _ _ => rfl⟩⟩
  | some a =>
    have hcs : ∀ j u, (zs.map (Value.int k))[j]? = some u → w.cell? (a.add j) = some u := by
      intro j u hj
      rw [List.getElem?_map] at hj
      obtain ⟨x, hx, rfl⟩ := Option.map_eq_some_iff.1 hj
      have hjl : j < zs.length := (List.getElem?_eq_some_iff.1 hx).1
      obtain ⟨b, off, ha, hc⟩ := R.cells j (by rw [← R.size]; exact hjl)
      cases ha
      rw [List.getD_eq_getElem?_getD, hx] at hc
      rw [Addr.add_lit, hc]; rfl
    obtain ⟨v', w', hr, h2, h3, _⟩ := run_append_own (P := P) w base t ty e i z 1 bytes ht hi hz hsize hby hzs (by decide) v n xs hown a len cap (zs.map (Value.int k)) (by rw [List.length_map, R.size, Nat.mul_one]) hcs hone h63 hbytes hbase
    exact ⟨v', w', hr, h2, h3⟩

theorem wpList_append_rd {P : Program} (w : World) {ops : Array Oper} {rest : List Oper} {o : Oper} {a : Act} {Q : Exit → Act → World → Prop} (hgd : o.guard = none) (s x : Operand) (t : TypeId)
    (ho : o.op = .call { callee := .builtin .append, args := #[s, x], argTypes := #[t, t] })
    (base : Nat) (e : TypeId) (i : TypeInfo) (z : Value) (bytes : Nat) (ht : P.underlying t = some (.slice e)) (hi : P.info? e = some i) (hz : i.zero = some z)
    (hsize : i.size = 1) (hby : i.bytes = bytes) (hzs : z.cells.size = 1) (v : Value) (n : Nat) (xs : List Value) (hs : a.eval s = v) (hown : w.ownsRow base e 1 v n xs)
    (k : IntKind) (ao : Option Addr) (len cap : Nat) (zs : List Int) (hx : a.eval x = .slice ao len cap) (R : RdI k w ao len cap zs) (h63 : n + len ≤ maxLen) (hbytes : (n + len) * bytes ≤ 140737488355328) (hbase : base ≤ w.heap.size)
    (h : ∀ v' w', w'.ownsRow base e 1 v' (n + len) (xs ++ zs.map (Value.int k)) → w.grownBy w' v.ownBlock → wpList P ops Q rest (a.put o.dst v') w') : wpList P ops Q (o :: rest) a w := by
  refine wpList_plain hgd fun K hK => ?_
  obtain ⟨v', w', hr, h2, h3⟩ := run_append_rd (P := P) w t o.type base e i z bytes ht hi hz hsize hby hzs v n xs hown k ao len cap zs R h63 hbytes hbase
  unfold Oper.wp execOp
  simp only [ho, resolve, invoke, builtin, Sem.run_bind, Sem.run_pure, Result.andThen_ok, List.map_toArray, List.map_cons, List.map_nil, hs, hx, hr]
  exact hK _ _ (h v' w' h2 h3)
end Go.Proofs.YtajnfkmkombajaaDoor
