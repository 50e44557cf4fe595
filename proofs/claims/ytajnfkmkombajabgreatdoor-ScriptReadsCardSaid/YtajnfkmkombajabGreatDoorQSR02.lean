/-
  Contracts of errors.As at a target **api.Fault: lines of the worked example ToyasAs, turned to this program.
  What an error value is, by its number and place.
  Contracts of plain.Code: an error's number and place.
-/
import Derived.Test.YtajnfkmkombajabGreatDoorQSR01
import Derived.Deep.RegionWith
set_option linter.unusedVariables false
set_option linter.unusedSimpArgs false
set_option linter.unusedVariables false
namespace Go.Proofs.YtajnfkmkombajabGreatDoor
open Go.RowKit Go.Extern.Stop Go.Stop Go.Extern

theorem Tryz.valueOfPP (t : Addr) (w : World) : (ReflectliteValue.unpack (.iface 71 (.pointer (some t)))).run Tryz.prog w
    = .ok (.agg #[.pointer (some ⟨26, 71, none⟩), .pointer (some ⟨w.heap.size, 0, none⟩), .int .u64 150]) (w.alloc (.cells #[.pointer (some t)] 71)) := by kernel_rfl
theorem Tryz.typePP (a : Addr) (w : World) : (ReflectliteValue.methodAny (ReflectliteValue.valueError "reflectlite.Value.Type" 0) (fun t _ _ _ => ReflectliteType.toType t) #[.agg #[.pointer (some ⟨26, 71, none⟩), .pointer (some a), .int .u64 150]]).run Tryz.prog w
    = .ok (.iface 142 (.agg #[.pointer (some ⟨26, 71, none⟩)])) w := by kernel_rfl
theorem Tryz.methodKind (h : Value) (w : World) : (Go.method 391 142 (.agg #[h]) "Kind").run Tryz.prog w = .ok (218, h) w := by kernel_rfl
theorem Tryz.kindPP (w : World) : ((ReflectliteType.abiMethod fun t => Functor.map (fun a : Nat => Value.int IntKind.u8 (a : Int)) (Rtype.kind t)) #[.pointer (some ⟨26, 71, none⟩)]).run Tryz.prog w = .ok (.int .u8 22) w := by kernel_rfl
theorem Tryz.kindP (w : World) : ((ReflectliteType.abiMethod fun t => Functor.map (fun a : Nat => Value.int IntKind.u8 (a : Int)) (Rtype.kind t)) #[.pointer (some ⟨26, 69, none⟩)]).run Tryz.prog w = .ok (.int .u8 22) w := by kernel_rfl

theorem rlm (z : Sem Value) (f : TypeId → Addr → Nat → Nat → Sem Value) (v : Value) :
    ReflectliteValue.method z f #[v] = (do match ← ReflectliteValue.parts v with | none => z | some (t, a, fl) => f t a fl (fl % 32)) := rfl
theorem Tryz.partsPP (a : Addr) (w : World) : (ReflectliteValue.parts (.agg #[.pointer (some ⟨26, 71, none⟩), .pointer (some a), .int .u64 150])).run Tryz.prog w = .ok (some (71, a, 150)) w := by kernel_rfl
theorem Tryz.isNilPP (a p : Addr) (W : World) (ha : W.cell? a = some (.pointer (some p))) :
    (ReflectliteValue.method (ReflectliteValue.valueError "reflectlite.Value.IsNil" 0) ReflectliteValue.isNil #[.agg #[.pointer (some ⟨26, 71, none⟩), .pointer (some a), .int .u64 150]]).run Tryz.prog W = .ok (.bool false) W := by
  rw [rlm]
  simp only [Sem.run_bind, Tryz.partsPP, Result.andThen]
  simp [ReflectliteValue.isNil, loadVar, isAgg, underlying, Tryz.underlying71, ha, Result.andThen]

theorem Tryz.methodElem (h : Value) (w : World) : (Go.method 391 142 (.agg #[h]) "Elem").run Tryz.prog w = .ok (231, .agg #[h]) w := by kernel_rfl
theorem Tryz.methodImplements (h : Value) (w : World) : (Go.method 391 142 (.agg #[h]) "Implements").run Tryz.prog w = .ok (232, .agg #[h]) w := by kernel_rfl
theorem Tryz.methodAssignableTo (h : Value) (w : World) : (Go.method 391 142 (.agg #[h]) "AssignableTo").run Tryz.prog w = .ok (229, .agg #[h]) w := by kernel_rfl
theorem Tryz.elemPP (w : World) : (ReflectliteType.method ReflectliteType.elem #[.agg #[.pointer (some ⟨26, 71, none⟩)]]).run Tryz.prog w = .ok (.iface 142 (.agg #[.pointer (some ⟨26, 69, none⟩)])) w := by kernel_rfl
theorem Tryz.implementsP (w : World) : (ReflectliteType.relation "Implements" ReflectliteType.implements_ #[.agg #[.pointer (some ⟨26, 69, none⟩)], .iface 142 (.agg #[.pointer (some ⟨26, 26, none⟩)])]).run Tryz.prog w = .ok (.bool true) w := by kernel_rfl
theorem Tryz.typeOfP (v : Value) (w : World) : (ReflectliteType.typeOf #[.iface 69 v]).run Tryz.prog w = .ok (.iface 142 (.agg #[.pointer (some ⟨26, 69, none⟩)])) w := by kernel_rfl
theorem Tryz.assignableP (w : World) : (ReflectliteType.relation "AssignableTo" ReflectliteType.assignableTo #[.agg #[.pointer (some ⟨26, 69, none⟩)], .iface 142 (.agg #[.pointer (some ⟨26, 69, none⟩)])]).run Tryz.prog w = .ok (.bool true) w := by kernel_rfl
theorem Tryz.assignableE (w : World) : (ReflectliteType.relation "AssignableTo" ReflectliteType.assignableTo #[.agg #[.pointer (some ⟨26, 235, none⟩)], .iface 142 (.agg #[.pointer (some ⟨26, 69, none⟩)])]).run Tryz.prog w = .ok (.bool false) w := by kernel_rfl
theorem Tryz.valueOfP (e : Addr) (w : World) : (ReflectliteValue.unpack (.iface 69 (.pointer (some e)))).run Tryz.prog w
    = .ok (.agg #[.pointer (some ⟨26, 69, none⟩), .pointer (some ⟨w.heap.size, 0, none⟩), .int .u64 150]) (w.alloc (.cells #[.pointer (some e)] 69)) := by kernel_rfl
theorem Tryz.elemOfPP (w : World) : (Rtype.elem? 71).run Tryz.prog w = .ok (some 69) w := by kernel_rfl
theorem Tryz.mkP (p : Addr) (w : World) : (ReflectliteValue.mk 69 p ReflectliteValue.flagAddr).run Tryz.prog w = .ok (.agg #[.pointer (some ⟨26, 69, none⟩), .pointer (some p), .int .u64 406]) w := by kernel_rfl
theorem Tryz.elemVPP (a p : Addr) (W : World) (ha : W.cell? a = some (.pointer (some p))) :
    (ReflectliteValue.method (ReflectliteValue.valueError "reflectlite.Value.Elem" 0) ReflectliteValue.elem #[.agg #[.pointer (some ⟨26, 71, none⟩), .pointer (some a), .int .u64 150]]).run Tryz.prog W
      = .ok (.agg #[.pointer (some ⟨26, 69, none⟩), .pointer (some p), .int .u64 406]) W := by
  rw [rlm]
  simp only [Sem.run_bind, Tryz.partsPP, Result.andThen]
  simp [ReflectliteValue.elem, loadVar, isAgg, underlying, Tryz.underlying71, ha, Result.andThen, Tryz.elemOfPP, Tryz.mkP]
theorem rls (v x : Value) : ReflectliteValue.set #[v, x] = (do
    let (some (dst, a, fl), some (src, b, _)) := (← ReflectliteValue.parts v, ← ReflectliteValue.parts x)
      | unsupported (.noEntry "extern/(internal/reflectlite.Value).Set.zeroValue")
    if fl / ReflectliteValue.flagAddr % 2 == 0 then unsupported (.noEntry "extern/(internal/reflectlite.Value).Set.unaddressable")
    let val ← loadVar src b
    if ← Rtype.directlyAssignable dst src then storeVar dst a val
    else if ← Rtype.implements dst src then
      if (← Rtype.kind src) == 20 then
        match val with
        | .nilIface => unsupported (.noEntry "extern/reflectlite: a nil value of one interface type handed on as a value of another")
        | _ => storeVar dst a val
      else storeVar dst a (.iface src val)
    else panicString ("reflectlite.Set: value of type " ++ (← Rtype.spelt src) ++ " is not assignable to type " ++ (← Rtype.spelt dst))
    pure (.tuple #[])) := rfl
theorem Tryz.partsPa (a : Addr) (w : World) : (ReflectliteValue.parts (.agg #[.pointer (some ⟨26, 69, none⟩), .pointer (some a), .int .u64 406])).run Tryz.prog w = .ok (some (69, a, 406)) w := by kernel_rfl
theorem Tryz.partsP (a : Addr) (w : World) : (ReflectliteValue.parts (.agg #[.pointer (some ⟨26, 69, none⟩), .pointer (some a), .int .u64 150])).run Tryz.prog w = .ok (some (69, a, 150)) w := by kernel_rfl
theorem Tryz.directP (w : World) : (Rtype.directlyAssignable 69 69).run Tryz.prog w = .ok true w := by kernel_rfl
theorem Tryz.setP (ta b e : Addr) (old : Value) (W : World) (hb : W.cell? b = some (.pointer (some e))) (ht : W.cell? ta = some old) (hf : W.frozen? ta = false) :
    (ReflectliteValue.set #[.agg #[.pointer (some ⟨26, 69, none⟩), .pointer (some ta), .int .u64 406], .agg #[.pointer (some ⟨26, 69, none⟩), .pointer (some b), .int .u64 150]]).run Tryz.prog W
      = .ok (.tuple #[]) (W.setCell ta (.pointer (some e))) := by
  rw [rls]
  simp only [Sem.run_bind, Tryz.partsPa, Tryz.partsP, Result.andThen]
  simp [ReflectliteValue.flagAddr, loadVar, isAgg, underlying, Tryz.underlying69, hb, Result.andThen, Tryz.directP, storeVar, Value.cells, storeCells, Addr.add]
  rw [run_store Tryz.prog W ta _ _ (by rfl)]
  simp [ht, hf]
theorem Tryz.noAsE (v : Value) (xT : TypeId) (w : World) : (Instr.typeAssert (.iface 235 v) xT 146 true).run Tryz.prog w = .ok (.tuple #[.nilIface, .bool false]) w := run_typeAssert_lacksB Tryz.underlying146 (by kernel_rfl) (by kernel_rfl) v xT w

/-- the variable errors.errorType holds what it was laid with -/
def ErrType (w : World) : Prop := w.cell? ⟨10, 0, none⟩ = some (.iface 142 (.agg #[.pointer (some ⟨26, 26, none⟩)]))
theorem ErrType.below {w w' : World} (h : ErrType w) (hb : Below w.heap.size w w') : ErrType w' := by
  unfold ErrType at h ⊢
  rw [hb.cell (p := ⟨10, 0, none⟩) (World.block_lt_of_cell? w _ h)]; exact h

set_option maxHeartbeats 4000000 in
set_option maxRecDepth 8000 in
/-- errors.As(f, &t), f a *api.Fault -/
theorem as_hit (e t : Addr) (old : Value) (w : World) (hg : ErrType w) (ht0 : w.cell? t = some old) (hf0 : w.frozen? t = false) :
    Calls Tryz.prog 24 #[.iface 69 (.pointer (some e)), .iface 71 (.pointer (some t))] w fun ev w' => ev = .returned (.bool true) ∧ Keep (· = t.block) w w' ∧ w'.cell? t = some (.pointer (some e)) := by
  have h6 := @run_callFunc_extern Tryz.prog 71 _ (fun args => ReflectliteValue.unpack (args.getD 0 (.tuple #[]))) Tryz.func71 (by kernel_rfl) (by kernel_rfl) (by kernel_rfl) (by kernel_rfl)
  have h7 := @run_callFunc_extern Tryz.prog 72 _ (ReflectliteValue.methodAny (ReflectliteValue.valueError "reflectlite.Value.Type" 0) (fun t _ _ _ => ReflectliteType.toType t)) Tryz.func72 (by kernel_rfl) (by kernel_rfl) (by kernel_rfl) (by kernel_rfl)
  have h8 := @run_callFunc_extern Tryz.prog 73 _ (ReflectliteValue.method (ReflectliteValue.valueError "reflectlite.Value.IsNil" 0) ReflectliteValue.isNil) Tryz.func73 (by kernel_rfl) (by kernel_rfl) (by kernel_rfl) (by kernel_rfl)
  have h27 := @run_callFunc_extern Tryz.prog 218 _ (ReflectliteType.abiMethod fun t => do pure (.int .u8 (← Rtype.kind t))) Tryz.func218 (by kernel_rfl) (by kernel_rfl) (by kernel_rfl) (by kernel_rfl)
  have h37 := @run_callFunc_extern Tryz.prog 231 _ (ReflectliteType.method ReflectliteType.elem) Tryz.func231 (by kernel_rfl) (by kernel_rfl) (by kernel_rfl) (by kernel_rfl)
  have h38 := @run_callFunc_extern Tryz.prog 232 _ (ReflectliteType.relation "Implements" ReflectliteType.implements_) Tryz.func232 (by kernel_rfl) (by kernel_rfl) (by kernel_rfl) (by kernel_rfl)
  have h10 := @run_callFunc_extern Tryz.prog 75 _ ReflectliteType.typeOf Tryz.func75 (by kernel_rfl) (by kernel_rfl) (by kernel_rfl) (by kernel_rfl)
  have h35 := @run_callFunc_extern Tryz.prog 229 _ (ReflectliteType.relation "AssignableTo" ReflectliteType.assignableTo) Tryz.func229 (by kernel_rfl) (by kernel_rfl) (by kernel_rfl) (by kernel_rfl)
  have h11 := @run_callFunc_extern Tryz.prog 96 _ (ReflectliteValue.method (ReflectliteValue.valueError "reflectlite.Value.Elem" 0) ReflectliteValue.elem) Tryz.func96 (by kernel_rfl) (by kernel_rfl) (by kernel_rfl) (by kernel_rfl)
  have h12 := @run_callFunc_extern Tryz.prog 97 _ ReflectliteValue.set Tryz.func97 (by kernel_rfl) (by kernel_rfl) (by kernel_rfl) (by kernel_rfl)
  have tO := Tryz.typeOfP
  have mA := Tryz.methodAssignableTo
  have a25 := Tryz.assignableP
  have v25 := Tryz.valueOfP
  have f6 := Tryz.valueOfPP
  have f7 := Tryz.typePP
  have mK := Tryz.methodKind
  have mE := Tryz.methodElem
  have mI := Tryz.methodImplements
  have k27 := Tryz.kindPP
  have k25 := Tryz.kindP
  have e27 := Tryz.elemPP
  have i25 := Tryz.implementsP
  unfold ErrType at hg
  have hlt := World.block_lt_of_cell? w _ hg
  have hgn : 10 < w.heap.size := hlt
  clear hlt
  have n8 := Tryz.isNilPP ⟨w.heap.size, 0, none⟩ t ((w.alloc (.cells #[.pointer (some t)] 71)).alloc (.cells #[.pointer (some ⟨26, 71, none⟩), .pointer (some ⟨w.heap.size, 0, none⟩), .int .u64 150] 118)) (by simp)
  have hg2 : ((w.alloc (.cells #[.pointer (some t)] 71)).alloc (.cells #[.pointer (some ⟨26, 71, none⟩), .pointer (some ⟨w.heap.size, 0, none⟩), .int .u64 150] 118)).cell? ⟨10, 0, none⟩ = some (.iface 142 (.agg #[.pointer (some ⟨26, 26, none⟩)])) := by
    rw [World.cell?_alloc_lt _ _ ⟨10, 0, none⟩ (by simp; omega), World.cell?_alloc_lt _ _ ⟨10, 0, none⟩ hgn]; exact hg
  have htl : t.block < w.heap.size := World.block_lt_of_cell? w _ ht0
  have el := Tryz.elemVPP ⟨w.heap.size, 0, none⟩ t (((w.alloc (.cells #[.pointer (some t)] 71)).alloc (.cells #[.pointer (some ⟨26, 71, none⟩), .pointer (some ⟨w.heap.size, 0, none⟩), .int .u64 150] 118)).alloc (.cells #[.pointer (some ⟨26, 71, none⟩), .pointer (some ⟨w.heap.size, 0, none⟩), .int .u64 150] 118)) (by rw [World.cell?_alloc_lt _ _ ⟨w.heap.size, 0, none⟩ (by simp; omega)]; simp)
  have ht4 : ((((w.alloc (.cells #[.pointer (some t)] 71)).alloc (.cells #[.pointer (some ⟨26, 71, none⟩), .pointer (some ⟨w.heap.size, 0, none⟩), .int .u64 150] 118)).alloc (.cells #[.pointer (some ⟨26, 71, none⟩), .pointer (some ⟨w.heap.size, 0, none⟩), .int .u64 150] 118)).alloc (.cells #[.pointer (some e)] 69)).cell? t = some old := by
    rw [World.cell?_alloc_lt _ _ t (by simp; omega), World.cell?_alloc_lt _ _ t (by simp; omega), World.cell?_alloc_lt _ _ t (by simp; omega), World.cell?_alloc_lt _ _ t htl]; exact ht0
  have st := Tryz.setP t ⟨w.heap.size + 1 + 1 + 1, 0, none⟩ e old ((((w.alloc (.cells #[.pointer (some t)] 71)).alloc (.cells #[.pointer (some ⟨26, 71, none⟩), .pointer (some ⟨w.heap.size, 0, none⟩), .int .u64 150] 118)).alloc (.cells #[.pointer (some ⟨26, 71, none⟩), .pointer (some ⟨w.heap.size, 0, none⟩), .int .u64 150] 118)).alloc (.cells #[.pointer (some e)] 69))
    (by rw [World.cell?_alloc_at _ _ _ _ (by simp)]; rfl) ht4
    (by rw [World.frozen?_alloc_old _ _ t (by simp; omega), World.frozen?_alloc_old _ _ t (by simp; omega), World.frozen?_alloc_old _ _ t (by simp; omega), World.frozen?_alloc_old _ _ t (Nat.ne_of_lt htl)]; exact hf0)
  have HT4 := Lib.hid ht4; clear ht4
  go_enter Tryz.func24, Tryz.ntmps24
  go_wp2
  refine wp_loop_rounds 1 ?_
  rw [rounds_succ]
  go_wp2
  go_ret
  exact ⟨rfl, Keep.setCell (F := fun x => x = t.block) (((((Keep.refl _ _).alloc _).alloc _).alloc _).alloc _) (.inl rfl) _, World.cell?_setCell_same _ _ _ HT4.out⟩

set_option maxHeartbeats 4000000 in
set_option maxRecDepth 8000 in
/-- errors.As(x, &t), x of errors.New's make -/
theorem as_miss (a : Value) (t : Addr) (w : World) (hg : ErrType w) :
    Calls Tryz.prog 24 #[.iface 235 a, .iface 71 (.pointer (some t))] w fun ev w' => ev = .returned (.bool false) ∧ Below w.heap.size w w' := by
  have h6 := @run_callFunc_extern Tryz.prog 71 _ (fun args => ReflectliteValue.unpack (args.getD 0 (.tuple #[]))) Tryz.func71 (by kernel_rfl) (by kernel_rfl) (by kernel_rfl) (by kernel_rfl)
  have h7 := @run_callFunc_extern Tryz.prog 72 _ (ReflectliteValue.methodAny (ReflectliteValue.valueError "reflectlite.Value.Type" 0) (fun t _ _ _ => ReflectliteType.toType t)) Tryz.func72 (by kernel_rfl) (by kernel_rfl) (by kernel_rfl) (by kernel_rfl)
  have h8 := @run_callFunc_extern Tryz.prog 73 _ (ReflectliteValue.method (ReflectliteValue.valueError "reflectlite.Value.IsNil" 0) ReflectliteValue.isNil) Tryz.func73 (by kernel_rfl) (by kernel_rfl) (by kernel_rfl) (by kernel_rfl)
  have h27 := @run_callFunc_extern Tryz.prog 218 _ (ReflectliteType.abiMethod fun t => do pure (.int .u8 (← Rtype.kind t))) Tryz.func218 (by kernel_rfl) (by kernel_rfl) (by kernel_rfl) (by kernel_rfl)
  have h37 := @run_callFunc_extern Tryz.prog 231 _ (ReflectliteType.method ReflectliteType.elem) Tryz.func231 (by kernel_rfl) (by kernel_rfl) (by kernel_rfl) (by kernel_rfl)
  have h38 := @run_callFunc_extern Tryz.prog 232 _ (ReflectliteType.relation "Implements" ReflectliteType.implements_) Tryz.func232 (by kernel_rfl) (by kernel_rfl) (by kernel_rfl) (by kernel_rfl)
  have h10 := @run_callFunc_extern Tryz.prog 75 _ ReflectliteType.typeOf Tryz.func75 (by kernel_rfl) (by kernel_rfl) (by kernel_rfl) (by kernel_rfl)
  have h35 := @run_callFunc_extern Tryz.prog 229 _ (ReflectliteType.relation "AssignableTo" ReflectliteType.assignableTo) Tryz.func229 (by kernel_rfl) (by kernel_rfl) (by kernel_rfl) (by kernel_rfl)
  have tO := Tryz.isTypeOf
  have mA := Tryz.methodAssignableTo
  have a25 := Tryz.assignableE
  have f6 := Tryz.valueOfPP
  have f7 := Tryz.typePP
  have mK := Tryz.methodKind
  have mE := Tryz.methodElem
  have mI := Tryz.methodImplements
  have k27 := Tryz.kindPP
  have k25 := Tryz.kindP
  have e27 := Tryz.elemPP
  have i25 := Tryz.implementsP
  have nA := Tryz.noAsE
  have uE := Tryz.noUnwrapE
  have vE := Tryz.noUnwrapsE
  unfold ErrType at hg
  have hlt := World.block_lt_of_cell? w _ hg
  have hgn : 10 < w.heap.size := hlt
  clear hlt
  have n8 := Tryz.isNilPP ⟨w.heap.size, 0, none⟩ t ((w.alloc (.cells #[.pointer (some t)] 71)).alloc (.cells #[.pointer (some ⟨26, 71, none⟩), .pointer (some ⟨w.heap.size, 0, none⟩), .int .u64 150] 118)) (by simp)
  have hg2 : ((w.alloc (.cells #[.pointer (some t)] 71)).alloc (.cells #[.pointer (some ⟨26, 71, none⟩), .pointer (some ⟨w.heap.size, 0, none⟩), .int .u64 150] 118)).cell? ⟨10, 0, none⟩ = some (.iface 142 (.agg #[.pointer (some ⟨26, 26, none⟩)])) := by
    rw [World.cell?_alloc_lt _ _ ⟨10, 0, none⟩ (by simp; omega), World.cell?_alloc_lt _ _ ⟨10, 0, none⟩ hgn]; exact hg
  go_enter Tryz.func24, Tryz.ntmps24
  go_wp2
  refine wp_loop_rounds 1 ?_
  rw [rounds_succ]
  go_wp2
  go_ret
  exact ⟨rfl, (((Below.refl _ _).alloc (Nat.le_refl _) _).alloc (by simp) _).alloc (by simp; omega) _⟩
end Go.Proofs.YtajnfkmkombajabGreatDoor
namespace Go.Proofs.YtajnfkmkombajabGreatDoor
open Go.RowKit

/-- an error as it is told: its number, and its place (-1: bare; else an *api.Fault that the call has made) -/
def ErrIs (A : Nat → Addr) (w w' : World) (v : Value) (f : Nat × Int) : Prop :=
  (f.2 = -1 ∧ v = ev A f.1) ∨ (0 ≤ f.2 ∧ ∃ g : Nat, w.heap.size ≤ g ∧ v = .iface 69 (.pointer (some ⟨g, 0, none⟩)) ∧ w'.cell? ⟨g, 0, none⟩ = some (.int .i64 f.2) ∧ w'.cell? ⟨g, 1, none⟩ = some (ev A f.1))

theorem ErrIs.bare {A : Nat → Addr} {w w' : World} {c : Nat} : ErrIs A w w' (ev A c) (c, -1) := .inl ⟨rfl, rfl⟩
theorem ErrIs.nil {A : Nat → Addr} {w w' : World} : ErrIs A w w' .nilIface (0, -1) := .inl ⟨rfl, rfl⟩
theorem ErrIs.later {A : Nat → Addr} {w w1 w2 : World} {v : Value} {f : Nat × Int} (h : ErrIs A w w1 v f) (hk : ∀ g o, w.heap.size ≤ g → g < w1.heap.size → w2.cell? ⟨g, o, none⟩ = w1.cell? ⟨g, o, none⟩) : ErrIs A w w2 v f := by
  rcases h with h | ⟨h0, g, hg, hv, c0, c1⟩
  · exact .inl h
  · exact .inr ⟨h0, g, hg, hv, by rw [hk g 0 hg (World.block_lt_of_cell? _ _ c0)]; exact c0, by rw [hk g 1 hg (World.block_lt_of_cell? _ _ c1)]; exact c1⟩
theorem ErrIs.since {A : Nat → Addr} {w0 w w' : World} {v : Value} {f : Nat × Int} (h : ErrIs A w w' v f) (hs : w0.heap.size ≤ w.heap.size) : ErrIs A w0 w' v f := by
  rcases h with h | ⟨h0, g, hg, r⟩
  · exact .inl h
  · exact .inr ⟨h0, g, Nat.le_trans hs hg, r⟩
/-- only whether it is nil -/
theorem ErrIs.yes {A : Nat → Addr} {w w' : World} {v : Value} {f : Nat × Int} (h : ErrIs A w w' v f) (hf : f.1 = 0) (hn : f.2 = -1) : v = .nilIface := by
  rcases h with ⟨_, h⟩ | ⟨h, _⟩
  · rw [h, hf]; rfl
  · omega
theorem ErrIs.no {A : Nat → Addr} {w w' : World} {v : Value} {f : Nat × Int} (h : ErrIs A w w' v f) (hf : f.1 ≠ 0) : ∃ t x, v = .iface t (.pointer (some x)) := by
  rcases h with ⟨_, h⟩ | ⟨_, g, _, h, _⟩
  · exact ⟨_, _, by rw [h, ev_some A hf]⟩
  · exact ⟨_, _, h⟩
end Go.Proofs.YtajnfkmkombajabGreatDoor
namespace Go.Proofs.YtajnfkmkombajabGreatDoor
open Go.RowKit

/-- all ten sentinels: their variables hold them, they are different ones, each in a block that may be written; and errors.errorType -/
structure Sents (A : Nat → Addr) (w : World) : Prop where
  errs : Errs A [1, 2, 3, 4, 5, 6, 7, 8, 9, 10] w
  typ : ErrType w
  blk : ∀ c, 1 ≤ c → c ≤ 10 → ∃ cs t, w.heap[(A c).block]? = some (.cells cs t (0, 0))
  ne : ∀ c d, 1 ≤ c → c ≤ 10 → 1 ≤ d → d ≤ 10 → c ≠ d → A c ≠ A d
theorem Sents.below {A : Nat → Addr} {w w' : World} (h : Sents A w) (hb : Below w.heap.size w w') : Sents A w' :=
  ⟨h.errs.below hb, h.typ.below hb, fun c h1 h2 => by obtain ⟨cs, t, hc⟩ := h.blk c h1 h2; exact ⟨cs, t, below_heap hb hc (lt_of_block hc)⟩, h.ne⟩
theorem Sents.cell {A : Nat → Addr} {w : World} (h : Sents A w) (c : Nat) (h1 : 1 ≤ c) (h2 : c ≤ 10) : w.cell? ⟨gE c, 0, none⟩ = some (.iface 235 (.pointer (some (A c)))) := by
  have := h.errs.cell c (by simp; omega)
  rw [ev_some _ (by omega)] at this; exact this

def evP (A : Nat → Addr) (c : Nat) : Value := .iface 235 (.pointer (some (A c)))
def tenVs (A : Nat → Addr) : List Value := [evP A 1, evP A 2, evP A 3, evP A 4, evP A 5, evP A 6, evP A 7, evP A 8, evP A 9, evP A 10]
theorem tenVs_get (A : Nat → Addr) (k : Nat) (hk : k < 10) : (tenVs A)[k]? = some (.iface 235 (.pointer (some (A (k + 1))))) := by
  match k, hk with
  | 0, _ => rfl
  | 1, _ => rfl
  | 2, _ => rfl
  | 3, _ => rfl
  | 4, _ => rfl
  | 5, _ => rfl
  | 6, _ => rfl
  | 7, _ => rfl
  | 8, _ => rfl
  | 9, _ => rfl

/-- what Code answers -/
def CodePost (c : Nat) (at_ : Int) (w : World) (e : Ending) (w' : World) : Prop := e = .returned (.tuple #[.int .i64 c, .int .i64 at_]) ∧ Below w.heap.size w w'

theorem code_nil (w : World) : Calls Tryz.prog 13 #[.nilIface] w (CodePost 0 (-1) w) := by
  go_enter Tryz.func13, Tryz.ntmps13
  go_wp2
  go_ret2
  exact ⟨rfl, Below.refl _ _⟩

set_option maxHeartbeats 1000000 in
set_option maxRecDepth 8000 in
theorem code_bare (A : Nat → Addr) (c : Nat) (h1 : 1 ≤ c) (h10 : c ≤ 10) (w : World) (hS : Sents A w) :
    Calls Tryz.prog 13 #[.iface 235 (.pointer (some (A c)))] w (CodePost c (-1) w) := by
  have HS := Lib.hid hS; clear hS
  go_enter Tryz.func13, Tryz.ntmps13
  go_wp2_with fail
  have b0 : Below w.heap.size w (w.alloc (.cells #[.pointer none] 69)) := (Below.refl _ _).alloc (Nat.le_refl _) _
  refine (as_miss _ _ _ (HS.out.below b0).typ).mono ?_
  rintro e w1 ⟨rfl, b1⟩
  have b01 := btrans b0 b1
  have S1 := HS.out.below b01
  have g1 : w1.cell? ⟨1, 0, none⟩ = some (.iface 235 (.pointer (some (A 1)))) := S1.cell 1 (by decide) (by decide)
  have g2 : w1.cell? ⟨0, 0, none⟩ = some (.iface 235 (.pointer (some (A 2)))) := S1.cell 2 (by decide) (by decide)
  have g3 : w1.cell? ⟨2, 0, none⟩ = some (.iface 235 (.pointer (some (A 3)))) := S1.cell 3 (by decide) (by decide)
  have g4 : w1.cell? ⟨3, 0, none⟩ = some (.iface 235 (.pointer (some (A 4)))) := S1.cell 4 (by decide) (by decide)
  have g5 : w1.cell? ⟨4, 0, none⟩ = some (.iface 235 (.pointer (some (A 5)))) := S1.cell 5 (by decide) (by decide)
  have g6 : w1.cell? ⟨5, 0, none⟩ = some (.iface 235 (.pointer (some (A 6)))) := S1.cell 6 (by decide) (by decide)
  have g7 : w1.cell? ⟨6, 0, none⟩ = some (.iface 235 (.pointer (some (A 7)))) := S1.cell 7 (by decide) (by decide)
  have g8 : w1.cell? ⟨7, 0, none⟩ = some (.iface 235 (.pointer (some (A 8)))) := S1.cell 8 (by decide) (by decide)
  have g9 : w1.cell? ⟨8, 0, none⟩ = some (.iface 235 (.pointer (some (A 9)))) := S1.cell 9 (by decide) (by decide)
  have g10 : w1.cell? ⟨9, 0, none⟩ = some (.iface 235 (.pointer (some (A 10)))) := S1.cell 10 (by decide) (by decide)
  have HS1 := Lib.hid S1; have HB := Lib.hid b01
  clear S1 b0 b1 b01
  go_wp2_with fail
  clear g1 g2 g3 g4 g5 g6 g7 g8 g9 g10
  have R := RowAt.new w1 26 (tenVs A)
  have b2 : Below w.heap.size w (w1.alloc (.cells (tenVs A).toArray 26)) := HB.out.alloc HB.out.size _
  have HR := Lib.hid R
  have HB2 := Lib.hid b2
  clear R b2 HB HS1
  go_loopw [28, 3] (fun i s3 wr => ∃ k : Nat, k < c ∧ i = .int .i64 k ∧ s3 = .int .i64 (-1) ∧ RowAt w1.heap.size 26 (tenVs A) wr ∧ Below w.heap.size w wr) (fun i _ _ => 10 - (intOf i).toNat)
  case atStart => exact ⟨0, by omega, rfl, rfl, HR.out, HB2.out⟩
  case round =>
    clear HR HB2
    obtain ⟨k, hk, rfl, rfl, R, hb⟩ := hrel
    have hck := (R.cell k).trans (tenVs_get A k (by omega))
    have S2 := HS.out.below hb
    have HB := Lib.hid hb; have HR := Lib.hid R; have HS2 := Lib.hid S2
    clear R hb S2
    obtain ⟨ca, ta, hca⟩ := HS2.out.blk c h1 h10
    obtain ⟨cb, tb, hcb⟩ := HS2.out.blk (k + 1) (by omega) (by omega)
    have HCA := Lib.hid hca; have HCB := Lib.hid hcb
    clear hca hcb
    by_cases hkc : k + 1 = c
    · subst hkc
      go_wp2_with fail
      refine (is_same _ _).mono ?_
      rintro e w' ⟨rfl, rfl⟩
      go_wp2_with fail
      go_ret2
      exact ⟨rfl, HB.out⟩
    · have hne := HS2.out.ne c (k + 1) h1 h10 (by omega) (by omega) (Ne.symm hkc)
      have HNE := Lib.hid hne; clear hne
      go_wp2_with fail
      refine (is_other _ _ _ _ _ _ _ HNE.out HCA.out HCB.out).mono ?_
      rintro e w' ⟨rfl, rfl⟩
      go_wp2_with fail
      go_roundw
      case rel => exact ⟨k + 1, by omega, by go_num, rfl, HR.out, HB.out⟩
      case measure => simp [intOf]; omega

set_option maxHeartbeats 1000000 in
set_option maxRecDepth 8000 in
/-- a fault: its error's number, and its place -/
theorem code_fault (A : Nat → Addr) (c : Nat) (h1 : 1 ≤ c) (h10 : c ≤ 10) (at_ : Int) (g : Nat) (w : World) (hS : Sents A w) (c0 : w.cell? ⟨g, 0, none⟩ = some (.int .i64 at_)) (c1 : w.cell? ⟨g, 1, none⟩ = some (.iface 235 (.pointer (some (A c))))) :
    Calls Tryz.prog 13 #[.iface 69 (.pointer (some ⟨g, 0, none⟩))] w (CodePost c at_ w) := by
  have HS := Lib.hid hS; clear hS
  have HC0 := Lib.hid c0; have HC1 := Lib.hid c1
  have hgl := World.block_lt_of_cell? _ _ c0
  clear c0 c1
  go_enter Tryz.func13, Tryz.ntmps13
  go_wp2_with fail
  have b0 : Below w.heap.size w (w.alloc (.cells #[.pointer none] 69)) := (Below.refl _ _).alloc (Nat.le_refl _) _
  refine (as_hit _ _ (.pointer none) _ (HS.out.below b0).typ (by simp) (by simp)).mono ?_
  rintro e w1 ⟨rfl, k1, ht⟩
  have b01 : Below w.heap.size w w1 := Keep.after b0 k1 (fun i hi => by rw [hi]; exact Nat.le_refl _)
  have S1 := HS.out.below b01
  have g1 : w1.cell? ⟨1, 0, none⟩ = some (.iface 235 (.pointer (some (A 1)))) := S1.cell 1 (by decide) (by decide)
  have g2 : w1.cell? ⟨0, 0, none⟩ = some (.iface 235 (.pointer (some (A 2)))) := S1.cell 2 (by decide) (by decide)
  have g3 : w1.cell? ⟨2, 0, none⟩ = some (.iface 235 (.pointer (some (A 3)))) := S1.cell 3 (by decide) (by decide)
  have g4 : w1.cell? ⟨3, 0, none⟩ = some (.iface 235 (.pointer (some (A 4)))) := S1.cell 4 (by decide) (by decide)
  have g5 : w1.cell? ⟨4, 0, none⟩ = some (.iface 235 (.pointer (some (A 5)))) := S1.cell 5 (by decide) (by decide)
  have g6 : w1.cell? ⟨5, 0, none⟩ = some (.iface 235 (.pointer (some (A 6)))) := S1.cell 6 (by decide) (by decide)
  have g7 : w1.cell? ⟨6, 0, none⟩ = some (.iface 235 (.pointer (some (A 7)))) := S1.cell 7 (by decide) (by decide)
  have g8 : w1.cell? ⟨7, 0, none⟩ = some (.iface 235 (.pointer (some (A 8)))) := S1.cell 8 (by decide) (by decide)
  have g9 : w1.cell? ⟨8, 0, none⟩ = some (.iface 235 (.pointer (some (A 9)))) := S1.cell 9 (by decide) (by decide)
  have g10 : w1.cell? ⟨9, 0, none⟩ = some (.iface 235 (.pointer (some (A 10)))) := S1.cell 10 (by decide) (by decide)
  have q0 := HC0.out
  rw [← b01.cell (p := ⟨g, 0, none⟩) hgl] at q0
  have HB := Lib.hid b01
  clear S1 b0 b01 k1
  go_wp2_with fail
  clear g1 g2 g3 g4 g5 g6 g7 g8 g9 g10 q0 ht
  have R := RowAt.new w1 26 (tenVs A)
  have b2 : Below w.heap.size w (w1.alloc (.cells (tenVs A).toArray 26)) := HB.out.alloc HB.out.size _
  have HR := Lib.hid R
  have HB2 := Lib.hid b2
  clear R b2 HB
  go_loopw [28, 3] (fun i s3 wr => ∃ k : Nat, k < c ∧ i = .int .i64 k ∧ s3 = .int .i64 at_ ∧ RowAt w1.heap.size 26 (tenVs A) wr ∧ Below w.heap.size w wr) (fun i _ _ => 10 - (intOf i).toNat)
  case atStart => exact ⟨0, by omega, rfl, rfl, HR.out, HB2.out⟩
  case round =>
    clear HR HB2
    obtain ⟨k, hk, rfl, rfl, R, hb⟩ := hrel
    have hck := (R.cell k).trans (tenVs_get A k (by omega))
    have S2 := HS.out.below hb
    have q1 := HC1.out
    rw [← hb.cell (p := ⟨g, 1, none⟩) hgl] at q1
    have HQ := Lib.hid q1; clear q1
    have HB := Lib.hid hb; have HR := Lib.hid R; have HS2 := Lib.hid S2
    clear R hb S2
    obtain ⟨ca, ta, hca⟩ := HS2.out.blk c h1 h10
    obtain ⟨cb, tb, hcb⟩ := HS2.out.blk (k + 1) (by omega) (by omega)
    have HCA := Lib.hid hca; have HCB := Lib.hid hcb
    clear hca hcb
    by_cases hkc : k + 1 = c
    · subst hkc
      go_wp2_with fail
      refine (is_fault_same g 0 _ _ HQ.out).mono ?_
      rintro e w' ⟨rfl, rfl⟩
      go_wp2_with fail
      go_ret2
      exact ⟨rfl, HB.out⟩
    · have hne := HS2.out.ne c (k + 1) h1 h10 (by omega) (by omega) (Ne.symm hkc)
      have HNE := Lib.hid hne; clear hne
      go_wp2_with fail
      refine (is_fault_other g 0 _ _ _ _ _ _ _ HQ.out HNE.out HCA.out HCB.out).mono ?_
      rintro e w' ⟨rfl, rfl⟩
      go_wp2_with fail
      go_roundw
      case rel => exact ⟨k + 1, by omega, by go_num, rfl, HR.out, HB.out⟩
      case measure => simp [intOf]; omega
end Go.Proofs.YtajnfkmkombajabGreatDoor
