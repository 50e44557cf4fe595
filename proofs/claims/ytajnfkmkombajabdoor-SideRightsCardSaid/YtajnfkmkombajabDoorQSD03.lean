/-
  Programs of effects that are alike: the model's own small parts.
  Programs of effects that are alike: the model's operations.
  Programs of effects that are alike: operators.
  Programs of effects that are alike: operators, conversions, panics.
-/
import Derived.Test.YtajnfkmkombajabDoorQSD02
import Derived.Laws.Sem
set_option linter.unusedVariables false
set_option linter.unusedSimpArgs false
namespace Go.Proofs.YtajnfkmkombajabDoor
open Go
section
variable {α β γ : Type} {P : Program} {ok : Fn → Prop} {RB : Rho → β → β → Prop} {ρ : Rho} {f F : α → Sem β}
theorem sr_pure {RA : Rho → α → α → Prop} {a b : α} (h : RA ρ a b) : SR P ok RA (pure a) ρ (pure b) := ⟨b, rfl, h⟩
theorem srb {RA : Rho → α → α → Prop} {s S : Sem α} (hg : Ext P ρ ρ) (h : SR P ok RA s ρ S) (hf : ∀ ρ' a b, Ext P ρ ρ' → RA ρ' a b → SR P ok RB (f a) ρ' (F b)) : SR P ok RB (s >>= f) ρ (S >>= F) := SR.bind hg h hf
theorem srb_stuck {w : String} {S : Sem β} : SR P ok RB ((stuck w : Sem α) >>= f) ρ S := rfl
theorem srb_unsup {u : Unsupported} {S : Sem β} (h : plainHalt (.unsupported u) = true := by rfl) : SR P ok RB ((unsupported u : Sem α) >>= f) ρ S := h
theorem sr_stuck {RA : Rho → α → α → Prop} {w : String} {S : Sem α} : SR P ok RA (stuck w) ρ S := rfl
theorem sr_unsup {RA : Rho → α → α → Prop} {u : Unsupported} {S : Sem α} (h : plainHalt (.unsupported u) = true := by rfl) : SR P ok RA (unsupported u) ρ S := h
theorem srb_program {f F : Program → Sem β} (h : SR P ok RB (f P) ρ (F P)) : SR P ok RB (program >>= f) ρ (program >>= F) := .inl ⟨_, rfl, h⟩
theorem srb_choose {q : Question} {f F : Nat → Sem β} (h : ∀ n, SR P ok RB (f n) ρ (F n)) : SR P ok RB (choose q >>= f) ρ (choose q >>= F) := .inl ⟨_, rfl, h⟩
theorem srb_load {f F : Value → Sem β} {a A : Addr} (ha : AR ρ a A) (h : ∀ v V, VR ok ρ v V → SR P ok RB (f v) ρ (F V)) : SR P ok RB (load a >>= f) ρ (load A >>= F) := ⟨A, _, rfl, rfl, ha, h⟩
theorem srb_store {f F : Unit → Sem β} {a A : Addr} {v V : Value} (ha : AR ρ a A) (hv : VR ok ρ v V) (h : SR P ok RB (f ()) ρ (F ())) : SR P ok RB (store a v >>= f) ρ (store A V >>= F) := ⟨A, V, _, rfl, rfl, ha, hv, h⟩
theorem srb_new {f F : Nat → Sem β} {o O : Obj} (ho : OR ok ρ o O) (ht : thawed o = true ∧ thawed O = true) (h : ∀ b B ρ', Ext P ρ ρ' → ρ' b B → SR P ok RB (f b) ρ' (F B)) : SR P ok RB (newObj o >>= f) ρ (newObj O >>= F) := .inl ⟨O, _, rfl, ho, ht, h⟩
theorem srb_shape {f F : Option (TypeId × Nat) → Sem β} {r R : Nat} (hr : ρ r R) (h : ∀ s s', ShR s s' → SR P ok RB (f s) ρ (F s')) : SR P ok RB (shape r >>= f) ρ (shape R >>= F) := .inl ⟨R, _, rfl, hr, fun s s' hs => .inl (h s s' hs)⟩
theorem srb_shape' {f F : Option (TypeId × Nat) → Sem β} {r R : Nat} (hr : ρ r R) (h : ∀ s s', ShR s s' → SR P ok RB (f s) ρ (F s') ∨ Dead P (f s)) : SR P ok RB (shape r >>= f) ρ (shape R >>= F) := .inl ⟨R, _, rfl, hr, h⟩
theorem srb_getObj {f F : Obj → Sem β} {r R : Nat} (hr : ρ r R) (h : ∀ o O, o.free = true → OR ok ρ o O → SR P ok RB (f o) ρ (F O)) : SR P ok RB (getObj r >>= f) ρ (getObj R >>= F) := ⟨R, _, rfl, hr, h⟩
theorem srb_mark {f F : Unit → Sem β} {m : Mark} (hm : idleMark m = true) (h : SR P ok RB (f ()) ρ (F ())) : SR P ok RB (mark m >>= f) ρ (mark m >>= F) := .inl ⟨_, rfl, hm, h⟩
theorem srb_pure {a b : α} (h : SR P ok RB (f a) ρ (F b)) : SR P ok RB (pure a >>= f) ρ (pure b >>= F) := h
theorem srb_typeInfo {f F : TypeInfo → Sem β} {t : TypeId} (h : ∀ i, P.info? t = some i → SR P ok RB (f i) ρ (F i)) : SR P ok RB (typeInfo t >>= f) ρ (typeInfo t >>= F) := by
 refine .inl ⟨_, rfl, ?_⟩
 show SR P ok RB ((match P.info? t with | some i => pure i | none => stuck "no such type" : Sem TypeInfo) >>= f) ρ ((match P.info? t with | some i => pure i | none => stuck "no such type" : Sem TypeInfo) >>= F)
 cases hi : P.info? t with
 | none => exact srb_stuck
 | some i => exact h i hi
theorem srb_underlying {f F : TypeDesc → Sem β} {t : TypeId} (h : ∀ d, P.underlying t = some d → SR P ok RB (f d) ρ (F d)) : SR P ok RB (underlying t >>= f) ρ (underlying t >>= F) := by
 refine .inl ⟨_, rfl, ?_⟩
 show SR P ok RB ((match P.underlying t with | some d => pure d | none => stuck "no such type" : Sem TypeDesc) >>= f) ρ ((match P.underlying t with | some d => pure d | none => stuck "no such type" : Sem TypeDesc) >>= F)
 cases hi : P.underlying t with
 | none => exact srb_stuck
 | some d => exact h d hi
theorem srb_sizeOf {f F : Nat → Sem β} {t : TypeId} (h : ∀ n, SR P ok RB (f n) ρ (F n)) : SR P ok RB (sizeOf t >>= f) ρ (sizeOf t >>= F) := by
 unfold sizeOf
 rw [bind_assoc, bind_assoc]
 exact srb_typeInfo fun i _ => h _
def ZeroOk (P : Program) (ok : Fn → Prop) : Prop := ∀ t i v, P.info? t = some i → i.zero = some v → ∀ ρ, VR ok ρ v v
theorem srb_zero (hz : ZeroOk P ok) {f F : Value → Sem β} {t : TypeId} (h : ∀ v, VR ok ρ v v → SR P ok RB (f v) ρ (F v)) : SR P ok RB (zeroValue t >>= f) ρ (zeroValue t >>= F) := by
 unfold zeroValue
 rw [bind_assoc, bind_assoc]
 refine srb_typeInfo fun i hi => ?_
 cases hv : i.zero with
 | none => exact srb_unsup
 | some v => exact h v (hz t i v hi hv ρ)
theorem srb_isAgg {f F : Bool → Sem β} {t : TypeId} (h : ∀ b, SR P ok RB (f b) ρ (F b)) : SR P ok RB (isAgg t >>= f) ρ (isAgg t >>= F) := by
 unfold isAgg
 rw [bind_assoc, bind_assoc]
 refine srb_underlying fun d _ => ?_
 cases d <;> exact h _
theorem srb_asIntOf {f F : IntKind × Int → Sem β} {v V : Value} (hv : VR ok ρ v V) (h : ∀ x, SR P ok RB (f x) ρ (F x)) : SR P ok RB (asIntOf v >>= f) ρ (asIntOf V >>= F) := by
 cases hv <;> first | exact h _ | exact srb_stuck | exact srb_unsup
theorem srb_asInt {f F : Int → Sem β} {v V : Value} (hv : VR ok ρ v V) (h : ∀ x, SR P ok RB (f x) ρ (F x)) : SR P ok RB (asInt v >>= f) ρ (asInt V >>= F) := by
 unfold asInt
 rw [bind_assoc, bind_assoc]
 exact srb_asIntOf hv fun x => h _
theorem srb_asBool {f F : Bool → Sem β} {v V : Value} (hv : VR ok ρ v V) (h : ∀ x, SR P ok RB (f x) ρ (F x)) : SR P ok RB (asBool v >>= f) ρ (asBool V >>= F) := by
 cases hv <;> first | exact h _ | exact srb_stuck | exact srb_unsup
theorem srb_asAgg {f F : Array Value → Sem β} {v V : Value} (hv : VR ok ρ v V) (h : ∀ x X, VRs ok ρ x X → SR P ok RB (f x) ρ (F X)) : SR P ok RB (asAgg v >>= f) ρ (asAgg V >>= F) := by
 cases hv <;> first | exact h _ _ ⟨‹_›, ‹_›⟩ | exact srb_stuck | exact srb_unsup
def quietErr : RuntimeError → Bool
 | .typeAssertion .. | .panicNil => false
 | _ => true
theorem srb_rtPanic {e : RuntimeError} (he : quietErr e = true) : SR P ok RB ((runtimePanic e : Sem α) >>= f) ρ ((runtimePanic e : Sem α) >>= F) := by
 cases e <;> first | exact .inl ⟨_, rfl, rfl⟩ | cases he
theorem sr_rtPanic {RA : Rho → α → α → Prop} {e : RuntimeError} (he : quietErr e = true) : SR P ok RA (runtimePanic e : Sem α) ρ (runtimePanic e : Sem α) := by
 cases e <;> first | exact .inl ⟨_, rfl, rfl⟩ | cases he
theorem sr_bounds {RA : Rho → α → α → Prop} (k : IntKind) (x y : Int) (c : BoundsCode) : SR P ok RA (boundsPanic k x y c : Sem α) ρ (boundsPanic k x y c : Sem α) := by
 unfold boundsPanic
 split
 · simp only [map_eq_pure_bind]
   exact srb_choose fun n => srb_pure (srb_pure (sr_rtPanic (e := .bounds (IntKind.i64.wrap x) y (n == 1) c) rfl))
 · exact srb_pure (sr_rtPanic (e := .bounds (IntKind.i64.wrap x) y (k != .u64) c) rfl)
theorem srb_bounds (k : IntKind) (x y : Int) (c : BoundsCode) : SR P ok RB ((boundsPanic k x y c : Sem α) >>= f) ρ ((boundsPanic k x y c : Sem α) >>= F) := by
 unfold boundsPanic
 simp only
 split
 · simp only [map_eq_pure_bind, bind_assoc]
   exact srb_choose fun n => srb_pure (srb_pure (srb_rtPanic (e := .bounds (IntKind.i64.wrap x) y (n == 1) c) rfl))
 · exact srb_pure (srb_rtPanic (e := .bounds (IntKind.i64.wrap x) y (k != .u64) c) rfl)
theorem srb_sureAddr {f F : Addr → Sem β} {v V : Value} (hv : VR ok ρ v V) (h : ∀ a A, AR ρ a A → SR P ok RB (f a) ρ (F A)) : SR P ok RB (Instr.sureAddr v >>= f) ρ (Instr.sureAddr V >>= F) := by
 cases hv <;> first | exact h _ _ ‹_› | exact srb_stuck | exact srb_unsup
theorem srb_asAddr {f F : Addr → Sem β} {v V : Value} (hv : VR ok ρ v V) (h : ∀ a A, AR ρ a A → SR P ok RB (f a) ρ (F A)) : SR P ok RB (asAddr v >>= f) ρ (asAddr V >>= F) := by
 cases hv <;> first | exact h _ _ ‹_› | exact srb_stuck | exact srb_unsup | exact srb_rtPanic (e := .nilDeref) rfl
theorem srb_loadFrom {f F : Array Value → Sem β} {a A : Addr} (ha : AR ρ a A) (h : ∀ x X, VRs ok ρ x X → SR P ok RB (f x) ρ (F X)) : ∀ (n i : Nat) (x X : Array Value), VRs ok ρ x X → SR P ok RB (loadCellsFrom a i n x >>= f) ρ (loadCellsFrom A i n X >>= F)
 | 0, _, x, X, hx => h x X hx
 | n + 1, i, x, X, hx => by
   unfold loadCellsFrom
   rw [bind_assoc, bind_assoc]
   exact srb_load (ha.add i) fun v V hv => srb_loadFrom ha h n (i + 1) _ _ (hx.push hv)
theorem srb_loadCells {f F : Array Value → Sem β} {a A : Addr} (ha : AR ρ a A) (n : Nat) (h : ∀ x X, VRs ok ρ x X → SR P ok RB (f x) ρ (F X)) : SR P ok RB (loadCells a n >>= f) ρ (loadCells A n >>= F) := srb_loadFrom ha h n 0 _ _ VRs.empty
theorem srb_storeCells {f F : Unit → Sem β} {a A : Addr} (ha : AR ρ a A) (h : SR P ok RB (f ()) ρ (F ())) : ∀ (vs Vs : List Value) (i : Nat), vs.length = Vs.length → (∀ (j : Nat) v V, vs[j]? = some v → Vs[j]? = some V → VR ok ρ v V) → SR P ok RB (storeCells a vs i >>= f) ρ (storeCells A Vs i >>= F)
 | [], [], _, _, _ => h
 | [], _ :: _, _, hl, _ => by cases hl
 | _ :: _, [], _, hl, _ => by cases hl
 | v :: vs, V :: Vs, i, hl, hv => by
   unfold storeCells
   rw [bind_assoc, bind_assoc]
   exact srb_store (ha.add i) (hv 0 v V rfl rfl) (srb_storeCells ha h vs Vs (i + 1) (by simpa using hl) (fun j x X a b => hv (j + 1) x X (by simpa using a) (by simpa using b)))
theorem VRs.list {x X : Array Value} (h : VRs ok ρ x X) : x.toList.length = X.toList.length ∧ ∀ (j : Nat) v V, x.toList[j]? = some v → X.toList[j]? = some V → VR ok ρ v V :=
 ⟨by simpa using h.1, fun j v V a b => h.2 j v V (by simpa using a) (by simpa using b)⟩
theorem srb_loadVar {f F : Value → Sem β} {a A : Addr} (ha : AR ρ a A) (t : TypeId) (h : ∀ v V, VR ok ρ v V → SR P ok RB (f v) ρ (F V)) : SR P ok RB (loadVar t a >>= f) ρ (loadVar t A >>= F) := by
 unfold loadVar
 simp only [bind_assoc]
 refine srb_isAgg fun b => ?_
 cases b with
 | true =>
   simp only [if_true, bind_assoc]
   exact srb_sizeOf fun n => srb_loadCells ha n fun x X hx => h _ _ (.agg' hx)
 | false => exact srb_load ha h
theorem srb_storeVar {f F : Unit → Sem β} {a A : Addr} (ha : AR ρ a A) (t : TypeId) {v V : Value} (hv : VR ok ρ v V) (h : SR P ok RB (f ()) ρ (F ())) : SR P ok RB (storeVar t a v >>= f) ρ (storeVar t A V >>= F) := by
 unfold storeVar
 simp only [bind_assoc]
 refine srb_sizeOf fun n => ?_
 rw [hv.cells.1]
 split
 · exact srb_stuck
 · obtain ⟨h1, h2⟩ := hv.cells.list
   exact srb_storeCells ha h _ _ 0 h1 h2
theorem srb_newRow {f F : Addr → Sem β} (t : TypeId) {c C : Array Value} (hc : VRs ok ρ c C) (h : ∀ a A ρ', Ext P ρ ρ' → AR ρ' a A → SR P ok RB (f a) ρ' (F A)) : SR P ok RB (newRow t c >>= f) ρ (newRow t C >>= F) := by
 unfold newRow
 simp only [bind_assoc]
 exact srb_new (.cells t hc (fun _ _ q => q)) ⟨rfl, rfl⟩ fun b B ρ' e hb => h _ _ ρ' e ⟨B, hb, rfl⟩
theorem srb_newVar {f F : Addr → Sem β} (t : TypeId) {v V : Value} (hv : VR ok ρ v V) (h : ∀ a A ρ', Ext P ρ ρ' → AR ρ' a A → SR P ok RB (f a) ρ' (F A)) : SR P ok RB (newVar t v >>= f) ρ (newVar t V >>= F) := srb_newRow t hv.cells h
theorem srb_part {f F : Value → Sem β} (t : TypeId) {c C : Array Value} (hc : VRs ok ρ c C) (i : Nat) (h : ∀ v V, VR ok ρ v V → SR P ok RB (f v) ρ (F V)) : SR P ok RB (part t c i >>= f) ρ (part t C i >>= F) := by
 unfold part
 simp only [bind_assoc]
 refine srb_isAgg fun b => ?_
 cases b with
 | true =>
   simp only [if_true, bind_assoc]
   exact srb_sizeOf fun n => h _ _ (.agg' (hc.extract _ _))
 | false =>
   simp only [Bool.false_eq_true, if_false]
   cases hv : c[i]? with
   | none => exact srb_stuck
   | some v =>
     obtain ⟨V, hV, hvV⟩ := hc.get hv
     rw [hV]
     exact h _ _ hvV
end
end Go.Proofs.YtajnfkmkombajabDoor
namespace Go.Proofs.YtajnfkmkombajabDoor
open Go
section
variable {α β : Type} {P : Program} {ok : Fn → Prop} {RB : Rho → β → β → Prop} {ρ : Rho}
theorem sr_of_bind {RA : Rho → α → α → Prop} {s S : Sem α} (h : SR P ok RA (s >>= pure) ρ (S >>= pure)) : SR P ok RA s ρ S := by
 rwa [bind_pure, bind_pure] at h
/-! ### places -/
theorem srb_viewAt {f F : Option (Addr × TypeId) → Sem β} {r R : Nat} (hr : ρ r R) (h : SR P ok RB (f none) ρ (F none)) : SR P ok RB (viewAt r >>= f) ρ (viewAt R >>= F) := by
 unfold viewAt
 simp only [bind_assoc]
 refine srb_shape hr fun s s' hss => ?_
 rw [hss.some]
 split
 · exact h
 · simp only [bind_assoc]
   refine srb_pure (srb_getObj hr fun o O ho hor => ?_)
   cases hor <;> exact h
theorem srb_noView {f F : Unit → Sem β} {a A : Addr} (ha : AR ρ a A) (h : SR P ok RB (f ()) ρ (F ())) : SR P ok RB (noView a >>= f) ρ (noView A >>= F) := by
 obtain ⟨B, hB, rfl⟩ := ha
 unfold noView
 simp only [bind_assoc]
 exact srb_viewAt hB h
theorem srb_byteOf {f F : Nat → Sem β} {a A : Addr} (ha : AR ρ a A) (h : ∀ n, SR P ok RB (f n) ρ (F n)) : SR P ok RB (byteOf a >>= f) ρ (byteOf A >>= F) := by
 have ha' := ha
 obtain ⟨B, hB, rfl⟩ := ha
 unfold byteOf
 cases hs : a.spot with
 | some s => exact h s
 | none =>
   simp only [bind_assoc]
   refine srb_pure (srb_program ?_)
   have := ha'
   rw [hs] at this
   refine srb_noView this ?_
   refine srb_shape hB fun s s' hss => ?_
   cases s with
   | none => exact srb_stuck
   | some x =>
     obtain ⟨n, rfl⟩ := hss.is
     simp only
     split
     · exact h _
     · refine srb_pure ?_
       cases byteOfCell P P.depth x.1 (a.off % P.cellsOf x.1) with
       | none => exact srb_stuck
       | some b => exact h _
theorem srb_partAt {f F : Addr → Sem β} {a A : Addr} (ha : AR ρ a A) (c b : Nat) (h : ∀ x X, AR ρ x X → SR P ok RB (f x) ρ (F X)) : SR P ok RB (partAt a c b >>= f) ρ (partAt A c b >>= F) := by
 have ha' := ha
 obtain ⟨B, hB, rfl⟩ := ha
 unfold partAt
 simp only [bind_assoc]
 refine srb_byteOf ha' fun n => srb_byteOf ⟨B, hB, rfl⟩ fun m => srb_pure ?_
 split
 · exact h _ _ ⟨B, hB, rfl⟩
 · exact h _ _ ⟨B, hB, rfl⟩
theorem srb_fieldPlace {f F : Addr → Sem β} {a A : Addr} (ha : AR ρ a A) (d : Field) (h : ∀ x X, AR ρ x X → SR P ok RB (f x) ρ (F X)) : SR P ok RB (fieldPlace a d >>= f) ρ (fieldPlace A d >>= F) := by
 unfold fieldPlace
 simp only [bind_assoc]
 refine srb_sizeOf fun n => ?_
 split
 · exact srb_partAt ha _ _ h
 · exact srb_pure (h _ _ (ha.add _))
theorem srb_numberAt {f F : Option (Addr × Bool) → Sem β} {r R : Nat} (hr : ρ r R) (h0 : SR P ok RB (f none) ρ (F none)) (h : ∀ a A l, AR ρ a A → SR P ok RB (f (some (a, l))) ρ (F (some (A, l)))) : SR P ok RB (numberAt r >>= f) ρ (numberAt R >>= F) := by
 unfold numberAt
 simp only [bind_assoc]
 refine srb_shape hr fun s s' hss => ?_
 rw [hss.some]
 split
 · exact h0
 · simp only [bind_assoc]
   refine srb_pure (srb_getObj hr fun o O ho hor => ?_)
   cases hor with
   | number l ha => exact h _ _ _ ha
   | cells | map | iterNil | iter | pre => exact h0
theorem srb_behind {f F : Addr × Bool → Sem β} {a A : Addr} (ha : AR ρ a A) (h : ∀ x X l, AR ρ x X → SR P ok RB (f (x, l)) ρ (F (X, l))) : SR P ok RB (behindNumber a >>= f) ρ (behindNumber A >>= F) := by
 have ha' := ha
 obtain ⟨B, hB, rfl⟩ := ha
 unfold behindNumber
 simp only [bind_assoc]
 exact srb_numberAt hB (h _ _ _ ha') fun x X l hx => h _ _ _ hx
theorem unsafeAdd_eq (x : Array TypeId) (t : TypeId) (ptr : Option Addr) (len_ : Value) : Builtin.unsafeAdd_ x t #[.pointer ptr, len_] = (do
   let n ← asInt len_
   if n = 0 then
     let some a := ptr | unsupported (.unsafePointer "Add: from nil")
     if (← viewAt a.block).isSome then unsupported (.unsafePointer "Add: at a place where no cell lies")
     return .pointer ptr
   if n < 0 then unsupported (.unsafePointer "Add: a move by a count below zero")
   let some a := ptr | unsupported (.unsafePointer "Add")
   let some (e, cells) ← shape a.block | unsupported (.unsafePointer "Add")
   let p ← program
   match cellAtBytes p p.depth e (cells / p.cellsOf e) a.off n with
   | some off => pure (.pointer (some { a with off }))
   | none => unsupported (.unsafePointer "Add")) := rfl
theorem cellAtBytes_le (P : Program) (d : Nat) (e : TypeId) (off : Nat) (n : Int) {x y : Nat} (h : x ≤ y) (o : Nat) (hq : cellAtBytes P d e x off n = some o) : cellAtBytes P d e y off n = some o := by
 unfold cellAtBytes at hq ⊢
 simp only at hq ⊢
 split at hq
 · cases hq
 · next h1 =>
   rw [if_neg h1]
   cases hb : byteOfCell P d e (off % P.cellsOf e) with
   | none => rw [hb] at hq; cases hq
   | some z =>
     rw [hb] at hq
     change (if _ then none else _) = some o at hq
     show (if _ then none else _) = some o
     split at hq
     · cases hq
     · next h2 =>
       rw [if_neg]
       · exact hq
       · intro h3
         refine h2 ?_
         rw [Bool.or_eq_true, decide_eq_true_eq, decide_eq_true_eq] at h3 ⊢
         rcases h3 with h3 | h3
         · exact .inl h3
         · right
           have : (Int.ofNat (x * P.bytesOf e) : Int) ≤ Int.ofNat (y * P.bytesOf e) := Int.ofNat_le.2 (Nat.mul_le_mul_right _ h)
           omega
theorem srb_unsafeAdd {f F : Value → Sem β} (x : Array TypeId) (t : TypeId) {p p' n n' : Value} (hp : VR ok ρ p p') (hn : VR ok ρ n n') (h : ∀ b B, AR ρ b B → SR P ok RB (f (.pointer (some b))) ρ (F (.pointer (some B)))) : SR P ok RB (Builtin.unsafeAdd_ x t #[p, n] >>= f) ρ (Builtin.unsafeAdd_ x t #[p', n'] >>= F) := by
 cases hp with
 | bool | int | string | snil | slice | mnil | map | cnil | func | nilFunc | iface | nilIface | agg | tuple | hole | holeF => exact srb_stuck
 | pnil =>
   rw [unsafeAdd_eq, unsafeAdd_eq]
   simp only [bind_assoc]
   refine srb_asInt hn fun k => ?_
   split
   · exact srb_unsup
   · split
     · exact srb_unsup
     · exact srb_unsup
 | ptr ha =>
   have ha' := ha
   obtain ⟨B, hB, rfl⟩ := ha
   rw [unsafeAdd_eq, unsafeAdd_eq]
   simp only [bind_assoc]
   refine srb_asInt hn fun k => ?_
   split
   · simp only [bind_assoc]
     refine srb_viewAt hB ?_
     exact h _ _ ha'
   · split
     · exact srb_unsup
     · refine srb_shape hB fun s s' hss => ?_
       cases s with
       | none => exact srb_unsup
       | some y =>
         show SR P ok RB ((program >>= fun p => _) >>= f) ρ _
         rcases hss with rfl | ⟨t0, n0, N0, h0, rfl, hle⟩
         rotate_left
         · cases h0
           show SR P ok RB ((program >>= fun p => _) >>= f) ρ ((program >>= fun p => _) >>= F)
           rw [bind_assoc, bind_assoc]
           refine srb_program ?_
           simp only
           generalize hq : cellAtBytes P P.depth t0 (n0 / P.cellsOf t0) _ k = r
           cases r with
           | none => exact srb_unsup
           | some o =>
             rw [cellAtBytes_le P P.depth t0 _ k (Nat.div_le_div_right (c := P.cellsOf t0) hle) o hq]
             exact h _ _ ⟨B, hB, rfl⟩
         show SR P ok RB ((program >>= fun p => _) >>= f) ρ ((program >>= fun p => _) >>= F)
         rw [bind_assoc, bind_assoc]
         refine srb_program ?_
         cases cellAtBytes P P.depth y.1 (y.2 / P.cellsOf y.1) _ k with
         | none => exact srb_unsup
         | some o => exact h _ _ ⟨B, hB, rfl⟩
theorem srb_asNumber {f F : Value → Sem β} {a A : Addr} (ha : AR ρ a A) (l : Bool) (h : ∀ v V ρ', Ext P ρ ρ' → VR ok ρ' v V → SR P ok RB (f v) ρ' (F V)) : SR P ok RB (asNumber a l >>= f) ρ (asNumber A l >>= F) := by
 unfold asNumber
 simp only [bind_assoc]
 exact srb_new (.number l ha) ⟨rfl, rfl⟩ fun b B ρ' e hb => h _ _ ρ' e (.ptr ⟨B, hb, rfl⟩)
theorem srb_twoPlaces (hg : Ext P ρ ρ) {f F : Nat × Nat → Sem β} {a A b B : Addr} (ha : AR ρ a A) (hb : AR ρ b B) (h : ∀ x, SR P ok RB (f x) ρ (F x)) : SR P ok RB (Op.twoPlaces a b >>= f) ρ (Op.twoPlaces A B >>= F) := by
 have ha' := ha; have hb' := hb
 obtain ⟨C, hC, rfl⟩ := ha
 obtain ⟨D, hD, rfl⟩ := hb
 unfold Op.twoPlaces
 simp only [bind_assoc]
 refine srb_program ?_
 have e1 : (a.block != b.block) = (C != D) := by
   rw [Bool.eq_iff_iff, bne_iff_ne, bne_iff_ne]
   constructor
   · intro h q; exact h (hg.inj _ _ _ hC (q ▸ hD))
   · intro h q; exact h (hg.fn _ _ _ hC (q ▸ hD))
 have e2 : decide (a.block ≥ P.globals.size) = decide (C ≥ P.globals.size) := by
   have := hg.glob _ _ hC
   rw [Bool.eq_iff_iff, decide_eq_true_eq, decide_eq_true_eq]
   omega
 rw [e1, e2]
 split
 · exact srb_unsup
 · simp only [bind_assoc]
   exact srb_byteOf ha' fun n => srb_byteOf hb' fun m => srb_pure (h _)
end
end Go.Proofs.YtajnfkmkombajabDoor
namespace Go.Proofs.YtajnfkmkombajabDoor
open Go
section
variable {α β : Type} {P : Program} {ok : Fn → Prop} {RB : Rho → β → β → Prop} {ρ : Rho}
theorem sr_addrCmp (hg : Ext P ρ ρ) (op : BinOp) {a A b B : Addr} (ha : AR ρ a A) (hb : AR ρ b B) : SR P ok (VR ok) (Op.addrCmp op a b) ρ (Op.addrCmp op A B) := by
 unfold Op.addrCmp
 refine srb_twoPlaces hg ha hb fun x => ?_
 obtain ⟨x, y⟩ := x
 cases op <;> first | exact sr_pure (.bool _) | exact sr_unsup
theorem sr_addrSub (hg : Ext P ρ ρ) (k : IntKind) {a A b B : Addr} (ha : AR ρ a A) (hb : AR ρ b B) : SR P ok (VR ok) (Op.addrSub k a b) ρ (Op.addrSub k A B) := by
 unfold Op.addrSub
 exact srb_twoPlaces hg ha hb fun x => sr_pure (.int _ _)
theorem sr_addrMod (k : IntKind) {a A : Addr} (ha : AR ρ a A) (n : Int) : SR P ok (VR ok) (Op.addrMod k a n) ρ (Op.addrMod k A n) := by
 have ha' := ha
 obtain ⟨B, hB, rfl⟩ := ha
 unfold Op.addrMod
 refine srb_shape hB fun s s' hss => ?_
 cases s with
 | none =>
   rcases hss with rfl | ⟨t0, n0, N0, h0, rfl, -⟩
   · exact sr_unsup
   · cases h0
 | some y =>
   obtain ⟨n0, rfl⟩ := hss.is
   refine srb_typeInfo fun i _ => ?_
   simp only
   split
   · exact srb_unsup
   · exact srb_byteOf ha' fun m => sr_pure (.int _ _)
theorem sr_movedPointer (t : TypeId) {x X y Y : Value} (hx : VR ok ρ x X) (hy : VR ok ρ y Y) : SR P ok (VR ok) (movedPointer t x y) ρ (movedPointer t X Y) := by
 unfold movedPointer
 have key : SR P ok (VR ok) (Builtin.unsafeAdd_ #[] t #[x, y]) ρ (Builtin.unsafeAdd_ #[] t #[X, Y]) := sr_of_bind (srb_unsafeAdd _ _ hx hy fun b B hb => sr_pure (.ptr hb))
 cases hx with
 | bool | int | string | snil | slice | mnil | map | cnil | func | nilFunc | iface | nilIface | agg | tuple | hole | holeF | pnil => exact key
 | ptr ha =>
   have ha' := ha
   obtain ⟨B, hB, rfl⟩ := ha
   exact srb_numberAt hB key fun a A l h => sr_unsup
theorem sr_movedNumber (t : TypeId) {x X y Y : Value} (hx : VR ok ρ x X) (hy : VR ok ρ y Y) : SR P ok (VR ok) (movedNumber t x y) ρ (movedNumber t X Y) := by
 unfold movedNumber
 refine srb_underlying fun d _ => ?_
 have key : SR P ok (VR ok) (Builtin.unsafeAdd_ #[] t #[x, y]) ρ (Builtin.unsafeAdd_ #[] t #[X, Y]) := sr_of_bind (srb_unsafeAdd _ _ hx hy fun b B hb => sr_pure (.ptr hb))
 have hall : SR P ok (VR ok) (do
     let .pointer (some n) := x | Builtin.unsafeAdd_ #[] t #[x, y]
     let (a, lost) ← behindNumber n
     match ← Builtin.unsafeAdd_ #[] t #[.pointer (some a), y] with
     | .pointer (some b) => asNumber b lost
     | v => pure v) ρ (do
     let .pointer (some n) := X | Builtin.unsafeAdd_ #[] t #[X, Y]
     let (a, lost) ← behindNumber n
     match ← Builtin.unsafeAdd_ #[] t #[.pointer (some a), Y] with
     | .pointer (some b) => asNumber b lost
     | v => pure v) := by
   cases hx with
   | bool | int | string | snil | slice | mnil | map | cnil | func | nilFunc | iface | nilIface | agg | tuple | hole | holeF | pnil => exact key
   | ptr ha =>
     exact srb_behind ha fun a A l h => srb_unsafeAdd _ _ (.ptr h) hy fun b B h2 => sr_of_bind (srb_asNumber h2 l fun v V ρ' e hv => sr_pure hv)
 cases d <;> first | exact srb_unsup | exact hall
theorem sr_int2 (op : BinOp) (k : IntKind) (a b : Int) : SR P ok (VR ok) (match op with
   | .add | .sub | .mul => Op.intArith op k a b
   | .quo | .rem => Op.intDiv op k a b
   | .and | .or | .xor | .andNot => Op.intBits op k a b
   | _ => Op.intCmp op a b) ρ (match op with
   | .add | .sub | .mul => Op.intArith op k a b
   | .quo | .rem => Op.intDiv op k a b
   | .and | .or | .xor | .andNot => Op.intBits op k a b
   | _ => Op.intCmp op a b) := by
 have hdiv : ∀ o, SR P ok (VR ok) (Op.intDiv o k a b) ρ (Op.intDiv o k a b) := fun o => by
   unfold Op.intDiv
   split
   · exact sr_rtPanic (e := .error _) rfl
   · cases o <;> first | exact sr_pure (.int _ _) | exact sr_stuck
 cases op <;> first | exact sr_pure (.int _ _) | exact sr_pure (.bool _) | exact hdiv _ | exact sr_stuck
theorem sr_shift (op : BinOp) (k : IntKind) (a : Int) (j : IntKind) (b : Int) : SR P ok (VR ok) (Op.shift op k a j b) ρ (Op.shift op k a j b) := by
 unfold Op.shift
 split
 · exact sr_rtPanic (e := .error _) rfl
 · cases op <;> first | exact sr_pure (.int _ _) | exact sr_stuck
theorem sr_stringOp (op : BinOp) (a b : ByteArray) : SR P ok (VR ok) (Op.stringOp op a b) ρ (Op.stringOp op a b) := by
 by_cases hc : ((a.size + b.size : Nat) : Int) > IntKind.i64.max
 · cases op <;> first | exact sr_pure (.bool _) | exact sr_stuck | (simp only [Op.stringOp, if_pos hc]; exact sr_unsup)
 · cases op <;> first | exact sr_pure (.bool _) | exact sr_stuck | (simp only [Op.stringOp, if_neg hc]; exact sr_pure (.string _))
def simpleV : Value → Bool
 | .nilIface | .int .. | .bool _ | .string _ | .pointer none | .slice none _ _ | .map none | .nilFunc => true
 | _ => false
set_option maxHeartbeats 2000000 in
theorem srb_equal {f F : Bool → Sem β} (t : TypeId) {x X y : Value} (hx : VR ok ρ x X) (hs : simpleV y = true) (h : ∀ b, SR P ok RB (f b) ρ (F b)) : SR P ok RB (Op.equal t x y >>= f) ρ (Op.equal t X y >>= F) := by
 show SR P ok RB (Op.equalIn (9999 + 1) t x y >>= f) ρ (Op.equalIn (9999 + 1) t X y >>= F)
 unfold Op.equalIn
 simp only [bind_assoc]
 refine srb_underlying fun d _ => ?_
 have hy : y = .nilIface ∨ (∃ k n, y = .int k n) ∨ (∃ b, y = .bool b) ∨ (∃ s, y = .string s) ∨ y = .pointer none ∨ (∃ n m, y = .slice none n m) ∨ y = .map none ∨ y = .nilFunc := by
   cases y with
   | nilIface => exact .inl rfl
   | int k n => exact .inr (.inl ⟨k, n, rfl⟩)
   | bool b => exact .inr (.inr (.inl ⟨b, rfl⟩))
   | string s => exact .inr (.inr (.inr (.inl ⟨s, rfl⟩)))
   | pointer a => cases a with
     | none => exact .inr (.inr (.inr (.inr (.inl rfl))))
     | some a => cases hs
   | slice a n m => cases a with
     | none => exact .inr (.inr (.inr (.inr (.inr (.inl ⟨n, m, rfl⟩)))))
     | some a => cases hs
   | map r => cases r with
     | none => exact .inr (.inr (.inr (.inr (.inr (.inr (.inl rfl))))))
     | some a => cases hs
   | nilFunc => exact .inr (.inr (.inr (.inr (.inr (.inr (.inr rfl))))))
   | _ => cases hs
 clear hs
 rcases hy with rfl | ⟨k, n, rfl⟩ | ⟨b, rfl⟩ | ⟨s, rfl⟩ | rfl | ⟨n, m, rfl⟩ | rfl | rfl
 all_goals (cases hx <;> cases d <;> first | exact h _ | exact srb_stuck | exact srb_unsup | skip)
 · rename_i k1 n1 k2 hd
   show SR P ok RB ((if k1 = k then pure (n1 == n) else stuck "==: kinds differ" : Sem Bool) >>= f) ρ ((if k1 = k then pure (n1 == n) else stuck "==: kinds differ" : Sem Bool) >>= F)
   split
   · exact h _
   · exact srb_stuck
 · rename_i a A ha k2 hd
   cases n with
   | ofNat m => cases m with
     | zero => exact h _
     | succ m => exact srb_unsup
   | negSucc m => exact srb_unsup
end
end Go.Proofs.YtajnfkmkombajabDoor
namespace Go.Proofs.YtajnfkmkombajabDoor
open Go
section
variable {α β : Type} {P : Program} {ok : Fn → Prop} {RB : Rho → β → β → Prop} {ρ : Rho}
def simpleO : Operand → Bool
 | .const v => simpleV v
 | _ => false
theorem srb_eqGuard {f F : Unit → Sem β} (op : BinOp) (t : TypeId) (x y : Operand) {a A b B : Value} (ha : VR ok ρ a A) (hb : VR ok ρ b B) (hy : (op = .eql ∨ op = .neq) → simpleO y = true ∧ simpleV b = true) (h : SR P ok RB (f ()) ρ (F ())) :
   SR P ok RB (eqGuard op t x y a b >>= f) ρ (eqGuard op t x y A B >>= F) := by
 cases op <;> first | exact h | skip
 all_goals
   obtain ⟨h1, h2⟩ := hy (by first | exact .inl rfl | exact .inr rfl)
   cases y <;> first | (cases h1; done) | skip
   cases hb <;> first | (cases h2; done) | skip
   all_goals (cases ha <;> cases x <;> first | exact h | (cases A <;> first | exact h | (rename_i hA; cases hA; done) | (rename_i hA _; cases hA; done) | (rename_i hA; exact absurd hA (by simp [holeV]))))
theorem dead_equal1 (t : TypeId) (y : Value) : Dead P (Op.equal t undef y) := by
 show Dead P (Op.equalIn (9999 + 1) t undef y)
 unfold Op.equalIn
 show Dead P (((match P.underlying t with | some d => pure d | none => stuck "no such type" : Sem TypeDesc)) >>= _)
 cases P.underlying t with
 | none => exact (rfl : true = true)
 | some d => cases d <;> cases y <;> first | exact (rfl : true = true) | (rename_i o; cases o <;> exact (rfl : true = true))
theorem dead_equal2 (t : TypeId) (x : Value) : Dead P (Op.equal t x undef) := by
 show Dead P (Op.equalIn (9999 + 1) t x undef)
 unfold Op.equalIn
 show Dead P (((match P.underlying t with | some d => pure d | none => stuck "no such type" : Sem TypeDesc)) >>= _)
 cases P.underlying t with
 | none => exact (rfl : true = true)
 | some d => cases d <;> cases x <;> first | exact (rfl : true = true) | (rename_i o; cases o <;> exact (rfl : true = true)) | (rename_i o a b; cases o <;> cases a <;> cases b <;> exact (rfl : true = true))
theorem dead_bin1 (op : BinOp) (ho : op = .eql ∨ op = .neq) (t : TypeId) (y : Value) : Dead P (binOp op t undef y) := by
 rcases ho with rfl | rfl <;> exact Dead.bind (dead_equal1 t y)
theorem dead_bin2 (op : BinOp) (ho : op = .eql ∨ op = .neq) (t : TypeId) (x : Value) : Dead P (binOp op t x undef) := by
 rcases ho with rfl | rfl <;> cases x <;> exact Dead.bind (dead_equal2 t _)
theorem sr_binInt (op : BinOp) (t : TypeId) (k : IntKind) (a : Int) (j : IntKind) (b : Int) : SR P ok (VR ok) (binOp op t (.int k a) (.int j b)) ρ (binOp op t (.int k a) (.int j b)) := by
 by_cases e : k = j
 · subst e
   have h2 := sr_int2 (P := P) (ok := ok) (ρ := ρ) op k a b
   cases op <;> (unfold binOp; first | exact sr_shift _ _ _ _ _ | (simp only [ne_eq, not_true_eq_false, if_false]; exact h2))
 · cases op <;> (unfold binOp; first | exact sr_shift _ _ _ _ _ | (simp only [ne_eq, e, not_false_eq_true, if_true]; exact sr_stuck))
set_option maxHeartbeats 2000000 in
theorem sr_binEq (op : BinOp) (ho : op = .eql ∨ op = .neq) (t : TypeId) {x X y Y : Value} (hx : VR ok ρ x X) (hy : VR ok ρ y Y) (hs : simpleV y = true) : SR P ok (VR ok) (binOp op t x y) ρ (binOp op t X Y) := by
 have heq : Y = y := by
   cases hy <;> first | rfl | cases hs
 have hE : SR P ok (VR ok) (Op.equal t x y >>= fun b => pure (.bool b)) ρ (Op.equal t X Y >>= fun b => pure (.bool b)) := by
   rw [heq]
   exact srb_equal t hx hs fun b => sr_pure (.bool _)
 have hN : SR P ok (VR ok) (Op.equal t x y >>= fun b => pure (.bool !b)) ρ (Op.equal t X Y >>= fun b => pure (.bool !b)) := by
   rw [heq]
   exact srb_equal t hx hs fun b => sr_pure (.bool _)
 rcases ho with rfl | rfl
 · cases hx <;> cases hy <;> first | (cases hs; done) | exact SR.dead (dead_bin1 _ (.inl rfl) _ _) | exact hE | exact sr_binInt _ _ _ _ _ _ | (unfold binOp; exact sr_stringOp _ _ _)
 · cases hx <;> cases hy <;> first | (cases hs; done) | exact SR.dead (dead_bin1 _ (.inr rfl) _ _) | exact hN | exact sr_binInt _ _ _ _ _ _ | (unfold binOp; exact sr_stringOp _ _ _)
set_option maxHeartbeats 2000000 in
theorem sr_binAr (hg : Ext P ρ ρ) (op : BinOp) (ho : ¬ (op = .eql ∨ op = .neq)) (t : TypeId) {x X y Y : Value} (hx : VR ok ρ x X) (hy : VR ok ρ y Y) : SR P ok (VR ok) (binOp op t x y) ρ (binOp op t X Y) := by
 have hadd : ∀ {p p' q q' : Value}, VR ok ρ p p' → VR ok ρ q q' → SR P ok (VR ok) (do if (← underlying t) matches .unsafePointer then movedPointer t p q else movedNumber t p q) ρ (do if (← underlying t) matches .unsafePointer then movedPointer t p' q' else movedNumber t p' q') := fun h1 h2 =>
   srb_underlying fun d _ => by cases d <;> first | exact sr_movedPointer t h1 h2 | exact sr_movedNumber t h1 h2
 have hsub : ∀ {a A b B : Addr}, AR ρ a A → AR ρ b B → SR P ok (VR ok) (do Op.addrSub .u64 (← behindNumber a).1 (← behindNumber b).1) ρ (do Op.addrSub .u64 (← behindNumber A).1 (← behindNumber B).1) := fun h1 h2 =>
   srb_behind h1 fun _ _ _ k1 => srb_behind h2 fun _ _ _ k2 => sr_addrSub hg _ k1 k2
 have hcmp : ∀ (o : BinOp) {a A b B : Addr}, AR ρ a A → AR ρ b B → SR P ok (VR ok) (do Op.addrCmp o (← behindNumber a).1 (← behindNumber b).1) ρ (do Op.addrCmp o (← behindNumber A).1 (← behindNumber B).1) := fun o _ _ _ _ h1 h2 =>
   srb_behind h1 fun _ _ _ k1 => srb_behind h2 fun _ _ _ k2 => sr_addrCmp hg o k1 k2
 have hmod : ∀ (k : IntKind) (n : Int) {a A : Addr}, AR ρ a A → SR P ok (VR ok) (do Op.addrMod k (← behindNumber a).1 n) ρ (do Op.addrMod k (← behindNumber A).1 n) := fun k n _ _ h1 =>
   srb_behind h1 fun _ _ _ k1 => sr_addrMod k k1 n
 cases hx with
 | int k a =>
   cases hy with
   | int j b => exact sr_binInt op t k a j b
   | ptr h => cases op <;> first | exact sr_unsup | exact sr_movedNumber t (.ptr h) (.int k a) | exact hmod _ _ h | exact absurd (.inl rfl) ho | exact absurd (.inr rfl) ho
   | pnil => cases op <;> first | exact sr_unsup | exact sr_movedNumber t .pnil (.int k a) | exact absurd (.inl rfl) ho | exact absurd (.inr rfl) ho
   | bool | string | snil | slice | mnil | map | cnil | func | nilFunc | iface | nilIface | agg | tuple | hole | holeF => cases op <;> first | exact sr_stuck | exact absurd (.inl rfl) ho | exact absurd (.inr rfl) ho
 | string a =>
   cases hy with
   | string b => cases op <;> first | exact absurd (.inl rfl) ho | exact absurd (.inr rfl) ho | (unfold binOp; exact sr_stringOp _ a b)
   | pnil | ptr => cases op <;> first | exact sr_unsup | exact absurd (.inl rfl) ho | exact absurd (.inr rfl) ho
   | bool | int | snil | slice | mnil | map | cnil | func | nilFunc | iface | nilIface | agg | tuple | hole | holeF => cases op <;> first | exact sr_stuck | exact absurd (.inl rfl) ho | exact absurd (.inr rfl) ho
 | pnil =>
   cases hy with
   | int j b => cases op <;> first | exact sr_unsup | exact hadd .pnil (.int j b) | exact sr_movedNumber t .pnil (.int j (-b)) | exact absurd (.inl rfl) ho | exact absurd (.inr rfl) ho
   | bool | string | pnil | ptr | snil | slice | mnil | map | cnil | func | nilFunc | iface | nilIface | agg | tuple | hole | holeF => cases op <;> first | exact sr_unsup | exact absurd (.inl rfl) ho | exact absurd (.inr rfl) ho
 | ptr h =>
   cases hy with
   | int j b => cases op <;> first | exact sr_unsup | exact hadd (.ptr h) (.int j b) | exact sr_movedNumber t (.ptr h) (.int j (-b)) | exact hmod _ _ h | exact absurd (.inl rfl) ho | exact absurd (.inr rfl) ho
   | ptr h' => cases op <;> first | exact sr_unsup | exact hsub h h' | exact hcmp _ h h' | exact absurd (.inl rfl) ho | exact absurd (.inr rfl) ho
   | bool | string | pnil | snil | slice | mnil | map | cnil | func | nilFunc | iface | nilIface | agg | tuple | hole | holeF => cases op <;> first | exact sr_unsup | exact absurd (.inl rfl) ho | exact absurd (.inr rfl) ho
 | bool | snil | slice | mnil | map | cnil | func | nilFunc | iface | nilIface | agg | tuple | hole | holeF =>
   cases hy with
   | pnil | ptr => cases op <;> first | exact sr_unsup | exact absurd (.inl rfl) ho | exact absurd (.inr rfl) ho
   | bool | int | string | snil | slice | mnil | map | cnil | func | nilFunc | iface | nilIface | agg | tuple | hole | holeF => cases op <;> first | exact sr_stuck | exact absurd (.inl rfl) ho | exact absurd (.inr rfl) ho
end
end Go.Proofs.YtajnfkmkombajabDoor
