/-
  Programs of effects that are alike: places, slices, rows.
  Programs of effects that are alike: len, cap, append, make, literals.
  Programs of effects that are alike: append.
  Programs of effects that are alike: make, literals, calls.
  Programs of effects that are alike: literals of structs, rows; calls.
-/
import Derived.Test.YtajnfkmkombajabDoorQSD03
set_option linter.unusedVariables false
set_option linter.unusedSimpArgs false
namespace Go.Proofs.YtajnfkmkombajabDoor
open Go
section
variable {α β : Type} {P : Program} {ok : Fn → Prop} {RB : Rho → β → β → Prop} {ρ : Rho}
theorem sr_unary (op : UnOp) {x X : Value} (hx : VR ok ρ x X) : SR P ok (VR ok) (Op.unary op x) ρ (Op.unary op X) := by
 cases op <;> cases hx <;> first | exact sr_pure (.int _ _) | exact sr_pure (.bool _) | exact sr_stuck | exact sr_unsup
theorem sr_makeInterface (t : TypeId) {x X : Value} (hx : VR ok ρ x X) : SR P ok (VR ok) (Instr.makeInterface t x) ρ (Instr.makeInterface t X) := by
 unfold Instr.makeInterface
 refine srb_underlying fun d _ => ?_
 cases d <;> first | exact sr_pure (.iface t hx) | exact sr_stuck
theorem sr_loadAt (t : TypeId) {x X : Value} (hx : VR ok ρ x X) : SR P ok (VR ok) (Instr.loadAt t x) ρ (Instr.loadAt t X) := by
 unfold Instr.loadAt
 exact srb_sureAddr hx fun a A ha => sr_of_bind (srb_loadVar ha t fun v V hv => sr_pure hv)
theorem srb_storeAt {f F : Unit → Sem β} (t : TypeId) {x X y Y : Value} (hx : VR ok ρ x X) (hy : VR ok ρ y Y) (h : SR P ok RB (f ()) ρ (F ())) : SR P ok RB (Instr.storeAt t x y >>= f) ρ (Instr.storeAt t X Y >>= F) := by
 unfold Instr.storeAt
 simp only [bind_assoc]
 exact srb_sureAddr hx fun a A ha => srb_storeVar ha t hy h
theorem sr_fieldAt (t : TypeId) {x X : Value} (hx : VR ok ρ x X) (i : Nat) : SR P ok (VR ok) (Instr.fieldAt t x i) ρ (Instr.fieldAt t X i) := by
 unfold Instr.fieldAt
 refine srb_underlying fun d _ => ?_
 cases d with
 | struct fields =>
   simp only
   cases hf : fields[i]? with
   | none => exact sr_stuck
   | some fd => exact srb_sureAddr hx fun a A ha => srb_fieldPlace ha fd fun y Y hy => sr_pure (.ptr hy)
 | _ => exact sr_stuck
theorem sr_field (t : TypeId) {x X : Value} (hx : VR ok ρ x X) (i : Nat) : SR P ok (VR ok) (Instr.field t x i) ρ (Instr.field t X i) := by
 unfold Instr.field
 refine srb_underlying fun d _ => ?_
 cases d with
 | struct fields =>
   simp only
   cases hf : fields[i]? with
   | none => exact sr_stuck
   | some fd => exact srb_asAgg hx fun y Y hy => sr_of_bind (srb_part fd.type hy fd.offset fun v V hv => sr_pure hv)
 | _ => exact sr_stuck
theorem sr_indexAt (t : TypeId) {x X i I : Value} (hx : VR ok ρ x X) (hi : VR ok ρ i I) : SR P ok (VR ok) (Instr.indexAt t x i) ρ (Instr.indexAt t X I) := by
 unfold Instr.indexAt
 refine srb_asIntOf hi fun y => ?_
 obtain ⟨k, j⟩ := y
 simp only
 refine srb_underlying fun d _ => ?_
 have fin : ∀ {a A : Addr} (l : Nat) (e : TypeId) (tiny : Bool), AR ρ a A → SR P ok (VR ok) (if 0 ≤ j ∧ j < (l : Int) then (do pure (.pointer (some (a.add (j.toNat * (← sizeOf e)))))) else if tiny = true then unsupported (.noEntry "op/indexAddr.an index out of range at an array of length 0 or 1 (ledger 616)") else boundsPanic k j l .index : Sem Value) ρ
     (if 0 ≤ j ∧ j < (l : Int) then (do pure (.pointer (some (A.add (j.toNat * (← sizeOf e)))))) else if tiny = true then unsupported (.noEntry "op/indexAddr.an index out of range at an array of length 0 or 1 (ledger 616)") else boundsPanic k j l .index : Sem Value) := fun {a A} l e tiny ha => by
   split
   · exact srb_sizeOf fun n => sr_pure (.ptr (ha.add _))
   · split
     · exact sr_unsup
     · exact sr_bounds _ _ _ _
 cases d with
 | array n e =>
   simp only
   refine srb_sureAddr hx fun a A ha => ?_
   exact srb_underlying fun d2 _ => by cases d2 <;> exact fin n e _ ha
 | slice e =>
   cases hx with
   | slice n m ha => exact srb_underlying fun d2 _ => by cases d2 <;> exact fin n e _ ha
   | snil n m => exact srb_underlying fun d2 _ => by cases d2 <;> exact sr_bounds _ _ _ _
   | _ => exact srb_stuck
 | _ => cases hx <;> exact srb_stuck
theorem sr_extract {x X : Value} (hx : VR ok ρ x X) (i : Nat) : SR P ok (VR ok) (Instr.extract x i) ρ (Instr.extract X i) := by
 cases hx with
 | @tuple x X hs hv =>
   unfold Instr.extract
   simp only
   cases hq : x[i]? with
   | none => exact sr_stuck
   | some v =>
     obtain ⟨V, hV, h⟩ := VRs.get ⟨hs, hv⟩ hq
     rw [hV]
     exact sr_pure h
 | _ => exact sr_stuck
theorem sr_box (t : TypeId) {x X : Value} (hx : VR ok ρ x X) : SR P ok (VR ok) (Instr.box t x) ρ (Instr.box t X) := by
 unfold Instr.box
 exact srb_newVar t hx fun a A ρ' e ha => sr_pure (.ptr ha)
theorem sr_alloc (hz : ZeroOk P ok) (t : TypeId) : SR P ok (VR ok) (Instr.alloc t true (.tuple #[])) ρ (Instr.alloc t true (.tuple #[])) := by
 unfold Instr.alloc
 exact srb_zero hz fun v hv => srb_newVar t hv fun a A ρ' e ha => sr_pure (.ptr ha)
theorem sr_convert (s d : TypeId) {x X : Value} (hx : VR ok ρ x X) (hs : ∃ k, P.underlying s = some (.int k)) (hd : ∃ k, P.underlying d = some (.int k)) : SR P ok (VR ok) (convert s d x) ρ (convert s d X) := by
 obtain ⟨i, hi⟩ := hs
 obtain ⟨j, hj⟩ := hd
 unfold convert
 refine srb_underlying fun u hu => srb_underlying fun v hv => ?_
 rw [hj] at hv; rw [hi] at hu
 cases hv; cases hu
 cases hx <;> first | exact sr_pure (.int _ _) | exact sr_unsup | exact sr_stuck
theorem srb_sliceBound {f F : Nat → Sem β} {x X : Value} (hx : VR ok ρ x X) (y : Nat) (c : BoundsCode) (h : ∀ n, SR P ok RB (f n) ρ (F n)) : SR P ok RB (Instr.sliceBound x y c >>= f) ρ (Instr.sliceBound X y c >>= F) := by
 unfold Instr.sliceBound
 simp only [bind_assoc]
 refine srb_asIntOf hx fun z => ?_
 obtain ⟨k, i⟩ := z
 simp only
 split
 · exact h _
 · exact srb_bounds _ _ _ _
def OV (ok : Fn → Prop) (ρ : Rho) : Option Value → Option Value → Prop
 | none, none => True
 | some v, some V => VR ok ρ v V
 | _, _ => False
theorem srb_sliceBounds {f F : Nat × Nat × Nat → Sem β} (b : Bool) (l c : Nat) {lo hi mx Lo Hi Mx : Option Value} (h1 : OV ok ρ lo Lo) (h2 : OV ok ρ hi Hi) (h3 : OV ok ρ mx Mx) (h : ∀ n, SR P ok RB (f n) ρ (F n)) :
   SR P ok RB (Instr.sliceBounds b l c lo hi mx >>= f) ρ (Instr.sliceBounds b l c Lo Hi Mx >>= F) := by
 unfold Instr.sliceBounds
 simp only
 cases mx <;> cases Mx <;> first | exact h3.elim | skip
 all_goals (cases hi <;> cases Hi <;> first | exact h2.elim | skip)
 all_goals (cases lo <;> cases Lo <;> first | exact h1.elim | skip)
 all_goals simp only [bind_assoc, pure_bind]
 · exact h _
 · exact srb_sliceBound h1 _ _ fun n => h _
 · exact srb_sliceBound h2 _ _ fun n => h _
 · exact srb_sliceBound h2 _ _ fun n => srb_sliceBound h1 _ _ fun n => h _
 · exact srb_sliceBound h3 _ _ fun n => srb_stuck
 · exact srb_sliceBound h3 _ _ fun n => srb_stuck
 · exact srb_sliceBound h3 _ _ fun n => srb_sliceBound h2 _ _ fun n => h _
 · exact srb_sliceBound h3 _ _ fun n => srb_sliceBound h2 _ _ fun n => srb_sliceBound h1 _ _ fun n => h _
theorem VR.cut {a A : Addr} (ha : AR ρ a A) (c : Prop) [Decidable c] (k n m : Nat) : VR ok ρ (.slice (some (if c then a else a.add k)) n m) (.slice (some (if c then A else A.add k)) n m) := by
 split
 · exact .slice n m ha
 · exact .slice n m (ha.add k)
theorem sr_slice (t : TypeId) {x X : Value} (hx : VR ok ρ x X) {lo hi mx Lo Hi Mx : Option Value} (h1 : OV ok ρ lo Lo) (h2 : OV ok ρ hi Hi) (h3 : OV ok ρ mx Mx) : SR P ok (VR ok) (Instr.slice t x lo hi mx) ρ (Instr.slice t X Lo Hi Mx) := by
 unfold Instr.slice
 refine srb_underlying fun d _ => ?_
 cases d with
 | slice e =>
   cases hx with
   | slice n m ha =>
     refine srb_sliceBounds _ _ _ h1 h2 h3 fun z => srb_sizeOf fun s => ?_
     obtain ⟨l, g, m'⟩ := z
     simp only [Option.map_some]
     split
     · exact sr_pure (.slice _ _ ha)
     · exact sr_pure (.slice _ _ (ha.add _))
   | snil n m =>
     refine srb_sliceBounds _ _ _ h1 h2 h3 fun z => srb_sizeOf fun s => ?_
     obtain ⟨l, g, m'⟩ := z
     simp only [Option.map_none, ite_self]
     exact sr_pure (.snil _ _)
   | _ => exact sr_stuck
 | string =>
   cases hx with
   | string s =>
     simp only
     cases mx <;> cases Mx <;> first | exact h3.elim | skip
     · exact srb_pure (srb_sliceBounds _ _ _ h1 h2 (by trivial) fun z => sr_pure (.string _))
     · exact srb_stuck
   | _ => exact sr_stuck
 | pointer e =>
   refine srb_asAddr hx fun a A ha => srb_underlying fun d2 _ => ?_
   cases d2 with
   | array n el =>
     refine srb_sliceBounds _ _ _ h1 h2 h3 fun z => srb_sizeOf fun s => ?_
     obtain ⟨l, g, m'⟩ := z
     exact sr_pure (VR.cut ha _ _ _ _)
   | _ => exact sr_stuck
 | _ => cases hx <;> exact sr_stuck
theorem sr_sliceAt (t : TypeId) {x X : Value} (hx : VR ok ρ x X) {lo hi mx Lo Hi Mx : Option Value} (h1 : OV ok ρ lo Lo) (h2 : OV ok ρ hi Hi) (h3 : OV ok ρ mx Mx) : SR P ok (VR ok) (Instr.sliceAt t x lo hi mx) ρ (Instr.sliceAt t X Lo Hi Mx) := by
 unfold Instr.sliceAt
 refine srb_underlying fun d _ => ?_
 cases d with
 | array n e =>
   refine srb_sureAddr hx fun a A ha => srb_sliceBounds _ _ _ h1 h2 h3 fun z => srb_sizeOf fun s => ?_
   obtain ⟨l, g, m'⟩ := z
   exact sr_pure (VR.cut ha _ _ _ _)
 | _ => exact sr_slice t hx h1 h2 h3
end
end Go.Proofs.YtajnfkmkombajabDoor
namespace Go.Proofs.YtajnfkmkombajabDoor
open Go
section
variable {α β : Type} {P : Program} {ok : Fn → Prop} {RB : Rho → β → β → Prop} {ρ : Rho}
theorem VRs.at {x X : Array Value} (h : VRs ok ρ x X) (i : Nat) : OV ok ρ x[i]? X[i]? := by
 cases hv : x[i]? with
 | none => rw [h.none hv]; trivial
 | some v =>
   obtain ⟨V, hV, q⟩ := h.get hv
   rw [hV]; exact q
theorem sr_len (ts : Array TypeId) (t : TypeId) {x X : Array Value} (h : VRs ok ρ x X) : SR P ok (VR ok) (Builtin.len_ ts t x) ρ (Builtin.len_ ts t X) := by
 unfold Builtin.len_
 have h0 := h.at 0
 cases ts[0]? with
 | none => cases x[0]? <;> exact sr_stuck
 | some u =>
   cases hx : x[0]? with
   | none => rw [hx] at h0; cases hX : X[0]? with
     | none => exact sr_stuck
     | some V => rw [hX] at h0; exact h0.elim
   | some v =>
     rw [hx] at h0
     cases hX : X[0]? with
     | none => rw [hX] at h0; exact h0.elim
     | some V =>
       rw [hX] at h0
       have hv : VR ok ρ v V := h0
       simp only
       refine srb_underlying fun d _ => ?_
       cases d with
       | map k e =>
         cases hv with
         | map hr =>
           refine srb_getObj hr fun o O ho hor => ?_
           cases hor with
           | map k hm => simp only [hm.1]; exact sr_pure (.int _ _)
           | _ => exact sr_stuck
         | mnil => exact sr_pure (.int _ _)
         | _ => exact sr_stuck
       | pointer a =>
         refine srb_underlying fun d2 _ => ?_
         cases d2 <;> first | exact sr_pure (.int _ _) | exact sr_stuck
       | _ => cases hv <;> first | exact sr_pure (.int _ _) | exact sr_stuck
theorem sr_cap (ts : Array TypeId) (t : TypeId) {x X : Array Value} (h : VRs ok ρ x X) : SR P ok (VR ok) (Builtin.cap_ ts t x) ρ (Builtin.cap_ ts t X) := by
 unfold Builtin.cap_
 have h0 := h.at 0
 cases ts[0]? with
 | none => cases x[0]? <;> exact sr_stuck
 | some u =>
   cases hx : x[0]? with
   | none => rw [hx] at h0; cases hX : X[0]? with
     | none => exact sr_stuck
     | some V => rw [hX] at h0; exact h0.elim
   | some v =>
     rw [hx] at h0
     cases hX : X[0]? with
     | none => rw [hX] at h0; exact h0.elim
     | some V =>
       rw [hX] at h0
       have hv : VR ok ρ v V := h0
       simp only
       refine srb_underlying fun d _ => ?_
       cases d with
       | pointer a =>
         refine srb_underlying fun d2 _ => ?_
         cases d2 <;> first | exact sr_pure (.int _ _) | exact sr_stuck
       | _ => cases hv <;> first | exact sr_pure (.int _ _) | exact sr_stuck
theorem srb_holds {f F : Bool → Sem β} {a A : Addr} (ha : AR ρ a A) (n : Nat) (hd : ∀ b, Dead P (f b)) (h : ∀ b, SR P ok RB (f b) ρ (F b)) : SR P ok RB (Builtin.holdsCells a n >>= f) ρ (Builtin.holdsCells A n >>= F) := by
 obtain ⟨B, hB, rfl⟩ := ha
 unfold Builtin.holdsCells
 simp only [bind_assoc]
 refine srb_shape' hB fun s s' hss => ?_
 rcases hss with rfl | ⟨t0, n0, N0, rfl, rfl, -⟩
 · left
   cases s <;> exact h _
 · exact .inr (hd _)
theorem srb_askRoom {f F : Unit → Sem β} (n : Nat) (h : SR P ok RB (f ()) ρ (F ())) : SR P ok RB (askRoom n >>= f) ρ (askRoom n >>= F) := by
 unfold askRoom
 split
 · exact srb_mark rfl h
 · exact h
theorem srb_lenOf {f F : Nat → Sem β} {v V : Value} (hv : VR ok ρ v V) (h : ∀ n, SR P ok RB (f n) ρ (F n)) : SR P ok RB (Builtin.lenOf v >>= f) ρ (Builtin.lenOf V >>= F) := by
 cases hv <;> first | exact h _ | exact srb_stuck
theorem VRs.bytes (s : ByteArray) (n : Nat) : VRs ok ρ ((s.extract 0 n).data.map fun b => Value.int .u8 b.toNat) ((s.extract 0 n).data.map fun b => Value.int .u8 b.toNat) := by
 refine ⟨rfl, fun i v V a b => ?_⟩
 rw [a] at b
 cases b
 rw [Array.getElem?_map] at a
 cases hq : (s.extract 0 n).data[i]? with
 | none => rw [hq] at a; cases a
 | some x => rw [hq] at a; cases a; exact .int _ _
theorem srb_firstCells {f F : Array Value → Sem β} (z n : Nat) {v V : Value} (hv : VR ok ρ v V) (h : ∀ x X, VRs ok ρ x X → SR P ok RB (f x) ρ (F X)) : SR P ok RB (Builtin.firstCells z n v >>= f) ρ (Builtin.firstCells z n V >>= F) := by
 cases hv with
 | slice a b ha => exact srb_loadCells ha _ h
 | snil a b => exact h _ _ VRs.empty
 | string s => exact h _ _ (VRs.bytes s n)
 | _ => exact srb_stuck
theorem VRs.zeros {v : Value} (hv : VR ok ρ v v) (n : Nat) : VRs ok ρ (Builtin.zeroCells v.cells n) (Builtin.zeroCells v.cells n) := by
 refine ⟨rfl, fun i u U a b => ?_⟩
 rw [a] at b
 cases b
 unfold Builtin.zeroCells at a
 rw [Array.getElem?_map] at a
 cases hq : (Array.range (n * v.cells.size))[i]? with
 | none => rw [hq] at a; cases a
 | some x =>
   rw [hq] at a
   have hi := (Array.getElem?_eq_some_iff.1 hq).1
   simp only [Array.size_range] at hi
   have hz : 0 < v.cells.size := Nat.pos_of_ne_zero (fun e => by rw [e] at hi; omega)
   have hx : x % v.cells.size < v.cells.size := Nat.mod_lt _ hz
   cases a
   have hg : v.cells[x % v.cells.size]? = some (v.cells[x % v.cells.size]!) := by
     rw [getElem!_pos v.cells _ hx, Array.getElem?_eq_getElem hx]
   exact hv.cells.2 _ _ _ hg hg
end
end Go.Proofs.YtajnfkmkombajabDoor
namespace Go.Proofs.YtajnfkmkombajabDoor
open Go
section
variable {α β : Type} {P : Program} {ok : Fn → Prop} {RB : Rho → β → β → Prop} {ρ : Rho}
theorem srb_growPanic {m : String} {f F : α → Sem β} : SR P ok RB ((runtimePanic (.error m) : Sem α) >>= f) ρ ((runtimePanic (.error m) : Sem α) >>= F) := srb_rtPanic (e := .error m) rfl
theorem srb_mayShare {f F : Bool → Sem β} (z n k : Nat) {b B : Option Addr} (hb : match b, B with | none, none => True | some a, some A => AR ρ a A | _, _ => False) {x X : Value} (hx : VR ok ρ x X) (hg : Ext P ρ ρ) (hd : ∀ c, Dead P (f c)) (h : ∀ c, SR P ok RB (f c) ρ (F c)) :
   SR P ok RB (Builtin.mayShare z n k b x >>= f) ρ (Builtin.mayShare z n k B X >>= F) := by
 unfold Builtin.mayShare
 cases b with
 | none =>
   cases B with
   | some A => exact hb.elim
   | none =>
     simp only [pure_bind]
     cases hx with
     | slice l c ha =>
       show SR P ok RB ((Builtin.holdsCells _ _ >>= fun q => pure (!q || false)) >>= f) ρ ((Builtin.holdsCells _ _ >>= fun q => pure (!q || false)) >>= F)
       rw [bind_assoc, bind_assoc]
       exact srb_holds ha _ (fun q => hd _) fun q => h _
     | _ => first | exact h _ | exact SR.dead (hd _)
 | some a =>
   cases B with
   | none => exact hb.elim
   | some A =>
     simp only [bind_assoc, pure_bind]
     refine srb_holds hb _ (fun q => ?_) fun q => ?_
     · intro c
       cases q <;> cases c <;> cases hx <;> first | exact hd _ | exact fun s => by cases s <;> exact hd _
     intro c
     cases q <;> cases c <;> cases hx <;> first | exact hd _ | exact fun s => by cases s <;> exact hd _
theorem srb_appNew (hz : ZeroOk P ok) {f F : Array Value → Sem β} (e : TypeId) (z : Bool) (s n : Nat) {x X : Value} (hx : VR ok ρ x X) (h : ∀ c C, VRs ok ρ c C → SR P ok RB (f c) ρ (F C)) :
   SR P ok RB ((if (!z) = true then Builtin.firstCells s n x else if n * s = 0 then pure #[] else do pure (Builtin.zeroCells (← zeroValue e).cells n)) >>= f) ρ
     ((if (!z) = true then Builtin.firstCells s n X else if n * s = 0 then pure #[] else do pure (Builtin.zeroCells (← zeroValue e).cells n)) >>= F) := by
 split
 · exact srb_firstCells s n hx h
 · split
   · exact h _ _ VRs.empty
   · simp only [bind_assoc]
     exact srb_zero hz fun v hv => h _ _ (VRs.zeros hv n)
def OA (ρ : Rho) : Option Addr → Option Addr → Prop
 | none, none => True
 | some a, some A => AR ρ a A
 | _, _ => False
theorem OA.vr {b B : Option Addr} (h : OA ρ b B) (n m : Nat) : VR ok ρ (.slice b n m) (.slice B n m) := by
 cases b <;> cases B <;> first | exact h.elim | exact .snil _ _ | exact .slice _ _ h
def appHere (e : TypeId) (size : Nat) (zeros : Bool) (base : Option Addr) (sLen sCap n : Nat) (x : Value) : Sem Value := do
 let appended : Sem (Array Value) :=
   if !zeros then Builtin.firstCells size n x
   else if n * size = 0 then pure #[]
   else do pure (Builtin.zeroCells (← zeroValue e).cells n)
 let new ← appended
 if let some a := base then storeCells (a.add (sLen * size)) new.toList
 pure (.slice base (sLen + n) sCap)
def appGrow (e : TypeId) (size : Nat) (zeros : Bool) (base : Option Addr) (sLen sCap n : Nat) (s x : Value) : Sem Value := do
 let appended : Sem (Array Value) :=
   if !zeros then Builtin.firstCells size n x
   else if n * size = 0 then pure #[]
   else do pure (Builtin.zeroCells (← zeroValue e).cells n)
 let need := sLen + n
 if (need : Int) > IntKind.i64.max ∧ (zeros ∨ (← typeInfo e).bytes = 0) then runtimePanic (.error "growslice: len out of range")
 if Builtin.nextslicecap need sCap * (← typeInfo e).bytes > 2 ^ 48 then (if zeros then runtimePanic (.error "growslice: len out of range") else do
   if !(← Builtin.mayShare size sLen n base x) then mark .noRoom
   unsupported (.resourceLimit "append: a slice or a string whose bytes no memory bears"))
 let newCap ← choose (.appendCap need sCap e)
 askRoom (newCap * (← typeInfo e).bytes)
 let old ← Builtin.firstCells size sLen s
 let new ← appended
 let rest := Builtin.zeroCells (← zeroValue e).cells (newCap - need)
 pure (.slice (some (← newRow e (old ++ new ++ rest))) need newCap)
theorem sr_appHere (hz : ZeroOk P ok) (e : TypeId) (s : Nat) (z : Bool) {b B : Option Addr} (hb : OA ρ b B) (l c n : Nat) {x X : Value} (hx : VR ok ρ x X) : SR P ok (VR ok) (appHere e s z b l c n x) ρ (appHere e s z B l c n X) := by
 unfold appHere
 refine srb_appNew hz e z s n hx fun y Y hy => ?_
 cases b <;> cases B <;> first | exact hb.elim | skip
 · exact sr_pure (.snil _ _)
 · obtain ⟨h1, h2⟩ := hy.list
   refine srb_storeCells (AR.add hb _) ?_ _ _ 0 h1 h2
   exact sr_pure (VR.slice _ _ hb)
theorem sr_appGrow (hz : ZeroOk P ok) (hg : Ext P ρ ρ) (e : TypeId) (s : Nat) (z : Bool) {b B : Option Addr} (hb : OA ρ b B) (l c n : Nat) {x X y Y : Value} (hx : VR ok ρ x X) (hy : VR ok ρ y Y) : SR P ok (VR ok) (appGrow e s z b l c n y x) ρ (appGrow e s z B l c n Y X) := by
 unfold appGrow
 have last : SR P ok (VR ok) (do
     let newCap ← choose (.appendCap (l + n) c e)
     askRoom (newCap * (← typeInfo e).bytes)
     let old ← Builtin.firstCells s l y
     let new ← (if !z then Builtin.firstCells s n x else if n * s = 0 then pure #[] else do pure (Builtin.zeroCells (← zeroValue e).cells n))
     let rest := Builtin.zeroCells (← zeroValue e).cells (newCap - (l + n))
     pure (Value.slice (some (← newRow e (old ++ new ++ rest))) (l + n) newCap)) ρ (do
     let newCap ← choose (.appendCap (l + n) c e)
     askRoom (newCap * (← typeInfo e).bytes)
     let old ← Builtin.firstCells s l Y
     let new ← (if !z then Builtin.firstCells s n X else if n * s = 0 then pure #[] else do pure (Builtin.zeroCells (← zeroValue e).cells n))
     let rest := Builtin.zeroCells (← zeroValue e).cells (newCap - (l + n))
     pure (Value.slice (some (← newRow e (old ++ new ++ rest))) (l + n) newCap)) :=
   srb_choose fun cap => srb_typeInfo fun i _ => srb_askRoom _ (srb_firstCells _ _ hy fun o O ho => srb_appNew hz e z s n hx fun w W hw => srb_zero hz fun v hv => srb_newRow e ((ho.append hw).append (VRs.zeros hv _)) fun a A ρ' e ha => sr_pure (VR.slice _ _ ha))
 refine srb_typeInfo fun i _ => ?_
 simp only
 split
 · exact srb_growPanic
 · refine srb_typeInfo fun i2 _ => ?_
   split
   · cases z with
     | true => exact srb_growPanic
     | false =>
       simp only [Bool.false_eq_true, if_false, bind_assoc]
       refine srb_mayShare s l n (b := b) (B := B) (by cases b <;> cases B <;> exact hb) hx hg (fun q => ?_) (fun q => ?_)
       · cases q <;> exact (rfl : true = true)
       · cases q
         · exact .inl ⟨_, rfl, rfl, rfl⟩
         · exact (rfl : true = true)
   · exact last
theorem sr_append (hz : ZeroOk P ok) (hg : Ext P ρ ρ) (ts : Array TypeId) (t : TypeId) {x X : Array Value} (h : VRs ok ρ x X) : SR P ok (VR ok) (Builtin.append_ ts t x) ρ (Builtin.append_ ts t X) := by
 unfold Builtin.append_
 have h0 := h.at 0
 have h1 := h.at 1
 revert h0 h1
 generalize x[0]? = s; generalize X[0]? = S; generalize x[1]? = y; generalize X[1]? = Y
 intro h0 h1
 cases ts[0]? with
 | none => exact sr_stuck
 | some u =>
   cases s <;> cases S <;> first | exact h0.elim | exact sr_stuck | skip
   cases y <;> cases Y <;> first | exact h1.elim | exact sr_stuck | skip
   rename_i s S y Y
   have hs : VR ok ρ s S := h0
   have hy : VR ok ρ y Y := h1
   clear h0 h1
   simp only
   refine srb_underlying fun d _ => ?_
   cases d with
   | slice e =>
     have main : ∀ {b B : Option Addr} (l c : Nat), OA ρ b B → ∀ (sz : Nat) (z : Bool) (n : Nat), SR P ok (VR ok) (if l + n ≤ c then appHere e sz z b l c n y else appGrow e sz z b l c n (.slice b l c) y) ρ (if l + n ≤ c then appHere e sz z B l c n Y else appGrow e sz z B l c n (.slice B l c) Y) := fun l c hb sz z n => by
       split
       · exact sr_appHere hz e sz z hb l c n hy
       · exact sr_appGrow hz hg e sz z hb l c n hy (hb.vr l c)
     have count : ∀ {b B : Option Addr} (l c : Nat), OA ρ b B → ∀ (sz : Nat) (j : Int), SR P ok (VR ok) (do
         let l' := IntKind.i64.wrap j
         if l' < 0 then runtimePanic (.error "makeslice: len out of range")
         if l' * (← typeInfo e).bytes > 2 ^ 48 then
           let made ← choose (.extern "append.ofMake.carriedOut" 2)
           runtimePanic (.error (if made == 1 then "makeslice: len out of range" else "growslice: len out of range"))
         let n ← pure l'.toNat
         if l + n ≤ c then appHere e sz true b l c n y else appGrow e sz true b l c n (.slice b l c) y) ρ (do
         let l' := IntKind.i64.wrap j
         if l' < 0 then runtimePanic (.error "makeslice: len out of range")
         if l' * (← typeInfo e).bytes > 2 ^ 48 then
           let made ← choose (.extern "append.ofMake.carriedOut" 2)
           runtimePanic (.error (if made == 1 then "makeslice: len out of range" else "growslice: len out of range"))
         let n ← pure l'.toNat
         if l + n ≤ c then appHere e sz true B l c n Y else appGrow e sz true B l c n (.slice B l c) Y) := fun l c hb sz j => by
       simp only
       split
       · exact srb_growPanic
       · refine srb_typeInfo fun i _ => ?_
         split
         · exact srb_choose fun m => srb_growPanic
         · exact srb_pure (main l c hb sz true _)
     cases hs with
     | slice n m ha =>
       refine srb_sizeOf fun sz => ?_
       cases ts[1]? with
       | none => exact srb_pure (srb_lenOf hy fun k => main (b := some _) (B := some _) n m ha sz false k)
       | some u2 =>
         refine srb_underlying fun d2 _ => srb_pure ?_
         cases d2 with
         | int k => exact srb_asInt hy fun j => count (b := some _) (B := some _) n m ha sz j
         | _ => exact srb_lenOf hy fun k => main (b := some _) (B := some _) n m ha sz false k
     | snil n m =>
       refine srb_sizeOf fun sz => ?_
       cases ts[1]? with
       | none => exact srb_pure (srb_lenOf hy fun k => main (b := none) (B := none) n m trivial sz false k)
       | some u2 =>
         refine srb_underlying fun d2 _ => srb_pure ?_
         cases d2 with
         | int k => exact srb_asInt hy fun j => count (b := none) (B := none) n m trivial sz j
         | _ => exact srb_lenOf hy fun k => main (b := none) (B := none) n m trivial sz false k
     | _ => exact sr_stuck
   | _ => exact sr_stuck
end
end Go.Proofs.YtajnfkmkombajabDoor
namespace Go.Proofs.YtajnfkmkombajabDoor
open Go
section
variable {α β : Type} {P : Program} {ok : Fn → Prop} {RB : Rho → β → β → Prop} {ρ : Rho}
theorem VRs.cyc {c : Array Value} (hc : VRs ok ρ c c) (n : Nat) (hn : n = 0 ∨ c.size ≠ 0) : VRs ok ρ ((Array.range n).map (fun i => c[i % c.size]!)) ((Array.range n).map (fun i => c[i % c.size]!)) := by
 refine ⟨rfl, fun i u U a b => ?_⟩
 rw [a] at b
 cases b
 rw [Array.getElem?_map] at a
 cases hq : (Array.range n)[i]? with
 | none => rw [hq] at a; cases a
 | some x =>
   rw [hq] at a
   have hi := (Array.getElem?_eq_some_iff.1 hq).1
   simp only [Array.size_range] at hi
   have hz : 0 < c.size := by
     rcases hn with q | q
     · omega
     · exact Nat.pos_of_ne_zero q
   have hx : x % c.size < c.size := Nat.mod_lt _ hz
   cases a
   have hg : c[x % c.size]? = some (c[x % c.size]!) := by
     rw [getElem!_pos c _ hx, Array.getElem?_eq_getElem hx]
   exact hc.2 _ _ _ hg hg
def SizeOk (P : Program) : Prop := ∀ t i v, P.info? t = some i → i.zero = some v → v.cells.size = i.size
theorem sr_makeSlice (hz : ZeroOk P ok) (hs : SizeOk P) (t : TypeId) {l L c C : Value} (hl : VR ok ρ l L) (hc : VR ok ρ c C) : SR P ok (VR ok) (Instr.makeSlice t l c) ρ (Instr.makeSlice t L C) := by
 unfold Instr.makeSlice
 refine srb_underlying fun d _ => ?_
 cases d with
 | slice e =>
   refine srb_asInt hl fun a => srb_asInt hc fun b => srb_typeInfo fun i hi => ?_
   simp only
   split
   · split
     · exact srb_growPanic
     · split
       · exact srb_growPanic
       · exact srb_choose fun n => srb_growPanic
   · refine srb_askRoom _ ?_
     unfold sizeOf
     simp only [bind_assoc]
     refine srb_typeInfo fun i2 hi2 => ?_
     rw [hi] at hi2; cases hi2
     simp only [pure_bind]
     split
     · next hn =>
       refine srb_pure ?_
       rw [hn]
       exact srb_newRow e (VRs.cyc VRs.empty 0 (.inl rfl)) fun x X ρ' _ hx => sr_pure (.slice _ _ hx)
     · next hn =>
       unfold zeroValue
       simp only [bind_assoc]
       refine srb_typeInfo fun i3 hi3 => ?_
       rw [hi] at hi3; cases hi3
       cases hv : i.zero with
       | none => exact srb_unsup
       | some v =>
         simp only [pure_bind]
         refine srb_newRow e (VRs.cyc (hz e i v hi hv ρ).cells _ (.inr fun q => hn ?_)) fun x X ρ' _ hx => sr_pure (.slice _ _ hx)
         rw [hs e i v hi hv] at q
         rw [q, Nat.mul_zero]
 | _ => exact sr_stuck
def PRs (ok : Fn → Prop) (ρ : Rho) : List (Nat × Value) → List (Nat × Value) → Prop
 | [], [] => True
 | (i, v) :: l, (j, V) :: L => i = j ∧ VR ok ρ v V ∧ PRs ok ρ l L
 | _, _ => False
theorem VRs.lay : ∀ (l L : List Value) (k off : Nat) {x X : Array Value}, l.length = L.length → (∀ (j : Nat) v V, l[j]? = some v → L[j]? = some V → VR ok ρ v V) → VRs ok ρ x X →
   VRs ok ρ ((l.zipIdx k).foldl (fun cs p => cs.setIfInBounds (off + p.2) p.1) x) ((L.zipIdx k).foldl (fun cs p => cs.setIfInBounds (off + p.2) p.1) X)
 | [], [], _, _, _, _, _, _, h => h
 | [], _ :: _, _, _, _, _, hl, _, _ => by cases hl
 | _ :: _, [], _, _, _, _, hl, _, _ => by cases hl
 | v :: l, V :: L, k, off, x, X, hl, hv, h => by
   simp only [List.zipIdx_cons, List.foldl_cons]
   exact VRs.lay l L (k + 1) off (by simpa using hl) (fun j u U a b => hv (j + 1) u U (by simpa using a) (by simpa using b)) (h.set _ (hv 0 v V rfl rfl))
theorem fill_alike (place : Nat → Option (Nat × Nat)) : ∀ (l L : List (Nat × Value)) {x X : Array Value}, PRs ok ρ l L → VRs ok ρ x X →
   (Instr.fill place x l = none ∧ Instr.fill place X L = none) ∨ ∃ y Y, Instr.fill place x l = some y ∧ Instr.fill place X L = some Y ∧ VRs ok ρ y Y
 | [], [], x, X, _, h => .inr ⟨x, X, rfl, rfl, h⟩
 | [], _ :: _, _, _, hp, _ => hp.elim
 | _ :: _, [], _, _, hp, _ => hp.elim
 | (i, v) :: l, (j, V) :: L, x, X, ⟨hij, hv, hp⟩, h => by
   subst hij
   unfold Instr.fill
   cases hq : place i with
   | none => exact .inl ⟨rfl, rfl⟩
   | some p =>
     obtain ⟨off, size⟩ := p
     simp only
     rw [← hv.cells.1, ← h.1]
     split
     · exact .inl ⟨rfl, rfl⟩
     · obtain ⟨h1, h2⟩ := hv.cells.list
       have := VRs.lay v.cells.toList V.cells.toList 0 off h1 h2 h
       refine fill_alike place l L hp ?_
       rw [← Array.foldl_toList, ← Array.foldl_toList, Array.toList_zipIdx, Array.toList_zipIdx]
       exact this
end
end Go.Proofs.YtajnfkmkombajabDoor
namespace Go.Proofs.YtajnfkmkombajabDoor
open Go
section
variable {α β γ : Type} {P : Program} {ok : Fn → Prop} {RB : Rho → β → β → Prop} {ρ : Rho}
theorem srb_mapL {g : α → Sem γ} (hg : ∀ (x : α) (f F : γ → Sem β), (∀ y, SR P ok RB (f y) ρ (F y)) → SR P ok RB (g x >>= f) ρ (g x >>= F)) : ∀ (l : List α) {f F : List γ → Sem β}, (∀ y, SR P ok RB (f y) ρ (F y)) → SR P ok RB (l.mapM g >>= f) ρ (l.mapM g >>= F)
 | [], f, F, h => by simpa using h []
 | x :: l, f, F, h => by
   simp only [List.mapM_cons, bind_assoc, pure_bind]
   exact hg x _ _ fun y => srb_mapL hg l fun z => h _
theorem srb_mapA {g : α → Sem γ} (hg : ∀ (x : α) (f F : γ → Sem β), (∀ y, SR P ok RB (f y) ρ (F y)) → SR P ok RB (g x >>= f) ρ (g x >>= F)) (l : Array α) {f F : Array γ → Sem β} (h : ∀ y, SR P ok RB (f y) ρ (F y)) : SR P ok RB (l.mapM g >>= f) ρ (l.mapM g >>= F) := by
 rw [Array.mapM_eq_mapM_toList, map_eq_pure_bind, bind_assoc, bind_assoc]
 exact srb_mapL hg l.toList fun y => h _
theorem sr_fill (place : Nat → Option (Nat × Nat)) {l L : List (Nat × Value)} {x X : Array Value} (hp : PRs ok ρ l L) (hx : VRs ok ρ x X) (w : String) {f F : Array Value → Sem β} (h : ∀ y Y, VRs ok ρ y Y → SR P ok RB (f y) ρ (F Y)) :
   SR P ok RB (match Instr.fill place x l with | some cells => f cells | _ => stuck w) ρ (match Instr.fill place X L with | some cells => F cells | _ => stuck w) := by
 rcases fill_alike place l L hp hx with ⟨h1, h2⟩ | ⟨y, Y, h1, h2, hy⟩
 · rw [h1]; exact sr_stuck
 · rw [h1, h2]; exact h y Y hy
theorem sr_build (hz : ZeroOk P ok) (t : TypeId) {l L : Array (Nat × Value)} (hp : PRs ok ρ l.toList L.toList) : SR P ok (VR ok) (Instr.build t l) ρ (Instr.build t L) := by
 unfold Instr.build
 refine srb_zero hz fun v hv => srb_underlying fun d _ => ?_
 cases d with
 | struct fields => exact srb_mapA (fun x f F h => by simp only [bind_assoc, pure_bind]; exact srb_sizeOf fun n => h _) fields fun pl => sr_fill _ hp hv.cells _ fun y Y hy => sr_pure (.agg' hy)
 | array n e => exact srb_sizeOf fun n => sr_fill _ hp hv.cells _ fun y Y hy => sr_pure (.agg' hy)
 | _ => exact sr_stuck
theorem sr_buildSlice (hz : ZeroOk P ok) (hs : SizeOk P) (t : TypeId) (len : Nat) {l L : Array (Nat × Value)} (hp : PRs ok ρ l.toList L.toList) : SR P ok (VR ok) (Instr.buildSlice t len l) ρ (Instr.buildSlice t len L) := by
 unfold Instr.buildSlice
 refine srb_underlying fun d _ => ?_
 cases d with
 | slice e =>
   simp only
   unfold sizeOf
   simp only [bind_assoc]
   refine srb_typeInfo fun i hi => srb_pure ?_
   split
   · exact srb_unsup
   · split
     · next hn =>
       refine srb_pure (sr_fill _ hp ?_ _ fun y Y hy => srb_newRow e hy fun a A ρ' _ ha => sr_pure (.slice _ _ ha))
       rw [hn]
       exact VRs.cyc VRs.empty 0 (.inl rfl)
     · next hn =>
       unfold zeroValue
       simp only [bind_assoc]
       refine srb_typeInfo fun i3 hi3 => ?_
       rw [hi] at hi3; cases hi3
       cases hv : i.zero with
       | none => exact srb_unsup
       | some v =>
         refine srb_pure (srb_pure (sr_fill _ hp ?_ _ fun y Y hy => srb_newRow e hy fun a A ρ' _ ha => sr_pure (.slice _ _ ha)))
         refine VRs.cyc (hz e i v hi hv ρ).cells _ (.inr fun q => hn ?_)
         rw [hs e i v hi hv] at q
         rw [q, Nat.mul_zero]
 | _ => exact sr_stuck
end
end Go.Proofs.YtajnfkmkombajabDoor
