/-
  One step of a goroutine in company, and of its like alone: the steps that carry an operation out, and those that leave a function.
  One step of a goroutine in company, and of its like alone: alike.
  Programs of effects that are alike: the model's own functions of package reflectlite. No program in sight.
-/
import Derived.Test.YtajnfkmkombajabDoorQSD05
set_option linter.unusedVariables false
set_option linter.unusedSimpArgs false
namespace Go.Proofs.YtajnfkmkombajabDoor
open Go Go.Conc
def putT (t : Array Value) (ops : Array Oper) (i : Nat) (v : Value) : Array Value := match (ops[i]?).bind (·.dst) with | some d => t.setIfInBounds d v | none => t
section
variable {P : Program} {main : Bool} {fn : FuncId} {t : Array Value} {k : List Item} {cs : List Frame} {w w' : World} {ops : Array Oper} {i : Nat} {r : List Nat} {s : Sem Next} {es : Array Event}
theorem ap_value {v : Value} (h : s.runT P w #[] = (.ok (.value v) w', es)) : stepG.apply P true (mkF fn t (.inRegion ops (i :: r) :: k) .run) cs none s w = .go (G (mkF fn (putT t ops i v) (.inRegion ops r :: k) .run) cs) w' (seen P fn es) := by
 have hk : (CallKind.normal == CallKind.early) = false := rfl
 unfold stepG.apply
 simp only [mkF, h, G, GStep.after, Frame.finish, putT, hk, if_true, Bool.false_eq_true, if_false, Array.append_empty]
 rfl
theorem ap_skip (h : s.runT P w #[] = (.ok .skip w', es)) : stepG.apply P true (mkF fn t (.inRegion ops (i :: r) :: k) .run) cs none s w = .go (G (mkF fn (putT t ops i undef) (.inRegion ops r :: k) .run) cs) w' (seen P fn es) := by
 have hk : (CallKind.normal == CallKind.early) = false := rfl
 unfold stepG.apply
 simp only [mkF, h, G, GStep.after, Frame.finish, putT, hk, if_true, Bool.false_eq_true, if_false, Array.append_empty]
 rfl
theorem ap_enter {f : FuncId} {x : Array Value} (h : s.runT P w #[] = (.ok (.enter f x) w', es)) : stepG.apply P true (mkF fn t (.inRegion ops (i :: r) :: k) .run) cs none s w = .go (G (Frame.enter P f x .normal) (mkF fn t (.inRegion ops (i :: r) :: k) .run :: cs)) w' (seen P fn es) := by
 have hk : (CallKind.normal == CallKind.early) = false := rfl
 unfold stepG.apply
 simp only [mkF, h, G, GStep.after, hk, if_true, Bool.false_eq_true, if_false, Array.append_empty]
theorem ap_halt {x : Halt} (hx : plainHalt x = true) (h : (s.runT P w #[]).1 = .halt x w') : (∃ o w1 e1, stepG.apply P true (mkF fn t (.inRegion ops (i :: r) :: k) .run) cs none s w = .ended o w1 e1) ∨
   (∃ ch w1 e1, stepG.apply P true (mkF fn t (.inRegion ops (i :: r) :: k) .run) cs none s w = .go (G { mkF fn t (.inRegion ops (i :: r) :: k) .run with mode := .panicking ch } cs) w1 e1) := by
 obtain ⟨es, hs⟩ : ∃ es, s.runT P w #[] = (.halt x w', es) := ⟨_, by rw [← h]⟩
 cases x with
 | panic v =>
   right
   have hk : (CallKind.normal == CallKind.early) = false := rfl
   refine ⟨[{ v, recovered := false }], w', seen P fn es, ?_⟩
   unfold stepG.apply
   simp only [hs, mkF, G, GStep.after, Frame.raise, hk, if_true, Bool.false_eq_true, if_false, Array.append_empty]
 | stuck m =>
   left
   have hk : (CallKind.normal == CallKind.early) = false := rfl
   unfold stepG.apply
   simp only [hs, mkF, GStep.after, hk, if_true, Bool.false_eq_true, if_false, Array.append_empty]
   exact ⟨_, _, _, rfl⟩
 | unsupported u =>
   left
   cases u with
   | initOrder g => cases hx
   | _ =>
     have hk : (CallKind.normal == CallKind.early) = false := rfl
     unfold stepG.apply
     simp only [hs, mkF, GStep.after, hk, if_true, Bool.false_eq_true, if_false, Array.append_empty]
     exact ⟨_, _, _, rfl⟩
 | _ => cases hx
theorem enter_mkF {f : FuncId} {fd : Func} {b : Code} (hf : P.funcs[f]? = some fd) (hb : fd.body = some b) (x : Array Value) : Frame.enter P f x .normal = mkF f (x ++ Array.replicate (fd.ntmps - x.size) undef) [.code b] .run := by
 simp [Frame.enter, mkF, hf, hb]
theorem VRs.replicate {ok : Fn → Prop} {ρ : Rho} (n : Nat) : VRs ok ρ (Array.replicate n undef) (Array.replicate n undef) := by
 refine ⟨rfl, fun i v V a b => ?_⟩
 rw [a] at b
 cases b
 rw [Array.getElem?_replicate] at a
 split at a
 · cases a; exact .undef
 · cases a
theorem st_results {fd : Func} {v : Value} {c : Frame} {td : List Item} (hf : P.funcs[fn]? = some fd) (h : (results fd t).runT P w #[] = (.ok v w', es)) : stepG P main (G (mkF fn t td .returning) (c :: cs)) w = .go (G (c.finish v) cs) w' (seen P fn es) := by
 simp only [mkF, G, stepG, unwind, hf, h, doReturn, GStep.after, Array.append_empty]
theorem st_results_bad {fd : Func} {x : Halt} {c : Frame} {td : List Item} (hf : P.funcs[fn]? = some fd) (h : ((results fd t).runT P w #[]).1 = .halt x w') : ∃ o w1 e1, stepG P main (G (mkF fn t td .returning) (c :: cs)) w = .ended o w1 e1 := by
 obtain ⟨es, hs⟩ : ∃ es, (results fd t).runT P w #[] = (.halt x w', es) := ⟨_, by rw [← h]⟩
 simp only [mkF, G, stepG, unwind, hf, hs]
 cases x <;> exact ⟨_, _, _, rfl⟩
end
end Go.Proofs.YtajnfkmkombajabDoor
namespace Go.Proofs.YtajnfkmkombajabDoor
open Go Go.Conc
section
variable {α β : Type} {P : Program} {ok : Fn → Prop} {RB : Rho → β → β → Prop} {ρ : Rho}
theorem srb_mapV {g K : α → Sem Value} (h : ∀ (x : α) (f F : Value → Sem β), (∀ y Y, VR ok ρ y Y → SR P ok RB (f y) ρ (F Y)) → SR P ok RB (g x >>= f) ρ (K x >>= F)) :
   ∀ (l : List α) {f F : List Value → Sem β}, (∀ y Y, VRs ok ρ y.toArray Y.toArray → SR P ok RB (f y) ρ (F Y)) → SR P ok RB (l.mapM g >>= f) ρ (l.mapM K >>= F)
 | [], f, F, hf => by simpa using hf [] [] VRs.empty
 | x :: l, f, F, hf => by
   simp only [List.mapM_cons, bind_assoc, pure_bind]
   refine h x _ _ fun y Y hy => srb_mapV h l fun z Z hz => hf _ _ ?_
   have := (VRs.one hy).append hz
   simpa using this
theorem sr_results (fd : Func) {t T : Array Value} (ht : VRs ok ρ t T) : SR P ok (VR ok) (results fd t) ρ (results fd T) := by
 unfold results
 rw [Array.mapM_eq_mapM_toList, Array.mapM_eq_mapM_toList, map_eq_pure_bind, map_eq_pure_bind, bind_assoc, bind_assoc]
 refine srb_mapV (fun x f F h => ?_) fd.results.toList fun y Y hy => srb_pure ?_
 · cases x with
   | tmp i => exact srb_pure (h _ _ (ht.getD i .undef))
   | cell a u =>
     simp only [bind_assoc]
     exact srb_asAddr (ht.getD a .undef) fun b B hb => srb_loadVar hb u fun v V hv => h _ _ hv
 · have hs := hy.1
   by_cases h1 : y.toArray.size = 1
   · have h2 : Y.toArray.size = 1 := hs ▸ h1
     rw [dif_pos h1, dif_pos h2]
     exact sr_pure (hy.2 0 _ _ (Array.getElem?_eq_getElem (by omega)) (Array.getElem?_eq_getElem (by omega)))
   · have h2 : ¬ Y.toArray.size = 1 := fun q => h1 (hs.trans q)
     rw [dif_neg h1, dif_neg h2]
     exact sr_pure (.tuple' hy)
end
structure GoodP (P : Program) (good : FuncId → Bool) (Gl : Gs) : Prop where
 fns : ∀ f, good f = true → (∃ fn b, P.funcs[f]? = some fn ∧ (fn.name == "runtime.NumGoroutine") = false ∧ fn.body = some b ∧ okCode P good Gl b = true) ∨ Native P good Gl f
 zero : ZeroOk P (okFn good)
 size : SizeOk P
theorem GoodP.good {P : Program} {good : FuncId → Bool} {Gl : Gs} (h : GoodP P good Gl) : GoodFns P good Gl := fun f hf => (h.fns f hf).imp (fun ⟨fn, b, h1, h2, h3, _⟩ => ⟨fn, b, h1, h2, h3⟩) id
theorem GoodP.body {P : Program} {good : FuncId → Bool} {Gl : Gs} (h : GoodP P good Gl) {f : FuncId} (hf : good f = true) (hb : ∃ fn b, P.funcs[f]? = some fn ∧ fn.body = some b) :
   ∃ fn b, P.funcs[f]? = some fn ∧ (fn.name == "runtime.NumGoroutine") = false ∧ fn.body = some b ∧ okCode P good Gl b = true := by
 rcases h.fns f hf with q | ⟨fn, e, h1, -, h3, -⟩ | ⟨fn, h1, -, h3, -⟩
 · exact q
 · obtain ⟨fn', b, h1', h3'⟩ := hb
   rw [h1] at h1'; cases h1'
   rw [h3] at h3'; cases h3'
 · obtain ⟨fn', b, h1', h3'⟩ := hb
   rw [h1] at h1'; cases h1'
   rw [h3] at h3'; cases h3'
inductive FrA (P : Program) (good : FuncId → Bool) (Gl : Gs) (ρ : Rho) : Frame → Frame → Prop
 | mk {fn : FuncId} {t T : Array Value} {td : List Item} {m : FrameMode} (hf : ∃ fd, P.funcs[fn]? = some fd) (ht : VRs (okFn good) ρ t T) (hi : ∀ it ∈ td, okItem P good Gl it = true) (hm : m = .run ∨ m = .returning) : FrA P good Gl ρ (mkF fn t td m) (mkF fn T td m)
theorem FrA.ext {P : Program} {good : FuncId → Bool} {Gl : Gs} {ρ ρ' : Rho} (e : ∀ b B, ρ b B → ρ' b B) {fr Fr : Frame} (h : FrA P good Gl ρ fr Fr) : FrA P good Gl ρ' fr Fr := by
 cases h with
 | mk hf ht hi hm => exact .mk hf (ht.ext e) hi hm
inductive FrsA (P : Program) (good : FuncId → Bool) (Gl : Gs) (ρ : Rho) : List Frame → List Frame → Prop
 | nil : FrsA P good Gl ρ [] []
 | cons {fr Fr : Frame} {cs Cs : List Frame} (h : FrA P good Gl ρ fr Fr) (t : FrsA P good Gl ρ cs Cs) : FrsA P good Gl ρ (fr :: cs) (Fr :: Cs)
theorem FrsA.ext {P : Program} {good : FuncId → Bool} {Gl : Gs} {ρ ρ' : Rho} (e : ∀ b B, ρ b B → ρ' b B) {cs Cs : List Frame} (h : FrsA P good Gl ρ cs Cs) : FrsA P good Gl ρ' cs Cs := by
 induction h with
 | nil => exact .nil
 | cons h _ ih => exact .cons (h.ext e) ih
def drawsOf (P : Program) (fr : Frame) (w : World) : Nat :=
 match fr.mode, fr.todo with
 | .run, .inRegion ops (i :: _) :: _ => match ops[i]? with
   | some o => if Region.wanted o (yielded ops fr.tmps) then (((execOp (evT fr.tmps) o).runT P w #[]).1).world.drawn - w.drawn else 0
   | none => 0
 | .run, .code (.region _ _ true) :: _ => 1
 | .returning, _ => match P.funcs[fr.fn]? with
   | some fd => (((results fd fr.tmps).runT P w #[]).1).world.drawn - w.drawn
   | none => 0
 | _, _ => 0
def LoneBad (P : Program) (fr : Frame) (cs : List Frame) (w : World) : Prop :=
 (∃ o w' es, stepG P true (G fr cs) w = .ended o w' es) ∨ (∃ ch w' es, stepG P true (G fr cs) w = .go (G { fr with mode := .panicking ch } cs) w' es)
def StepA (P : Program) (mn : Bool) (good : FuncId → Bool) (Gl : Gs) (Zo : Olds) (S : Nat → Prop) (ρ : Rho) (M : Nat → Prop) (c0 : Frame) (Base : List Frame) (fr Fr : Frame) (mid Mid : List Frame) (w W : World) : Prop :=
 ∃ fr' Fr' mid' Mid' ρ' M' w' W' es ES, stepG P true (G fr (mid ++ [c0])) w = .go (G fr' (mid' ++ [c0])) w' es ∧ stepG P mn (G Fr (Mid ++ Base)) W = .go (G Fr' (Mid' ++ Base)) W' ES ∧
   FrA P good Gl ρ' fr' Fr' ∧ FrsA P good Gl ρ' mid' Mid' ∧ Ext P ρ ρ' ∧ HR P (okFn good) Zo S ρ' M' w' W' ∧ Moves M M' W W' ∧ w'.tape = w.tape ∧ w'.drawn = w.drawn + drawsOf P Fr W ∧ ∀ e ∈ ES, EvOk S M' e
section
variable {P : Program} {mn : Bool} {good : FuncId → Bool} {Gl : Gs} {Zo : Olds} {S : Nat → Prop} {ρ : Rho} {M : Nat → Prop} {c0 : Frame} {Base : List Frame} {mid Mid : List Frame} {w W : World}
theorem StepA.still {fr Fr fr' Fr' : Frame} (h1 : stepG P true (G fr (mid ++ [c0])) w = .go (G fr' (mid ++ [c0])) w #[]) (h2 : stepG P mn (G Fr (Mid ++ Base)) W = .go (G Fr' (Mid ++ Base)) W #[]) (hf : FrA P good Gl ρ fr' Fr') (hm : FrsA P good Gl ρ mid Mid)
   (hr : HR P (okFn good) Zo S ρ M w W) (hd : drawsOf P Fr W = 0) : StepA P mn good Gl Zo S ρ M c0 Base fr Fr mid Mid w W :=
 ⟨fr', Fr', mid, Mid, ρ, M, w, W, #[], #[], h1, h2, hf, hm, hr.ext, hr, Moves.refl _ _, rfl, by rw [hd]; rfl, fun e he => by simp at he⟩
theorem exitTo_sub {id : Nat} : ∀ {k k' : List Item}, exitTo id k = some k' → ∀ it ∈ k', it ∈ k
 | [], k', h => by cases h
 | x :: k, k', h => by
   cases x with
   | inBlock i =>
     unfold exitTo at h
     split at h
     · cases h; exact fun it hi => by simp [hi]
     · exact fun it hi => by simp [exitTo_sub h it hi]
   | _ => exact fun it hi => by simp [exitTo_sub (k := k) (by simpa [exitTo] using h) it hi]
theorem yielded_alike {ok : Fn → Prop} {t T : Array Value} (h : VRs ok ρ t T) (ops : Array Oper) : yielded ops T = yielded ops t := by
 funext j
 unfold yielded
 cases (ops[j]?).bind (·.dst) with
 | none => rfl
 | some d =>
   simp only [Option.bind_some]
   cases hv : t[d]? with
   | none => rw [h.none hv]
   | some v =>
     obtain ⟨V, hV, hvV⟩ := h.get hv
     rw [hV]
     cases hvV with
     | hole h => cases V <;> first | rfl | cases h
     | _ => rfl
end
end Go.Proofs.YtajnfkmkombajabDoor
namespace Go.Proofs.YtajnfkmkombajabDoor
open Go Go.Extern Go.Extern.Rtype
section
variable {α β : Type} {P : Program} {ok : Fn → Prop} {RB : Rho → β → β → Prop} {ρ : Rho}
theorem srb_ofHandle (hg : Ext P ρ ρ) (hN : ρ P.globals.size P.globals.size) {f F : TypeId → Sem β} {h H : Value} (hv : VR ok ρ h H) (k : ∀ t, SR P ok RB (f t) ρ (F t)) : SR P ok RB (ofHandle h >>= f) ρ (ofHandle H >>= F) := by
 unfold ofHandle
 simp only [bind_assoc]
 refine srb_program ?_
 have e : handleType P h ≠ none → handleType P H = handleType P h := by
   cases hv with
   | ptr ha =>
     obtain ⟨B, hB, rfl⟩ := ha
     rename_i a
     intro _
     unfold handleType
     by_cases q : a.block = P.globals.size
     · have : B = P.globals.size := hg.fn _ _ _ (q ▸ hB) hN
       simp [q, this]
     · have : ¬ B = P.globals.size := fun q' => q (hg.inj _ _ _ (q' ▸ hB) hN)
       simp [q, this]
   | hole => exact fun q => absurd rfl q
   | _ => exact fun _ => rfl
 cases hh : handleType P h with
 | none => exact srb_stuck
 | some t => rw [e (by rw [hh]; simp), hh]; exact k t
theorem srb_handle (hN : ρ P.globals.size P.globals.size) {f F : Value → Sem β} (t : TypeId) (k : ∀ v V, VR ok ρ v V → SR P ok RB (f v) ρ (F V)) : SR P ok RB (handle t >>= f) ρ (handle t >>= F) := by
 unfold handle
 simp only [bind_assoc]
 exact srb_program (k _ _ (.ptr ⟨_, hN, rfl⟩))
theorem srb_ifUnsup {c : Bool} {u : Unsupported} (hu : plainHalt (.unsupported u) = true) {f F : Unit → Sem β} (k : SR P ok RB (f ()) ρ (F ())) : SR P ok RB ((if c then unsupported u else pure () : Sem Unit) >>= f) ρ ((if c then unsupported u else pure () : Sem Unit) >>= F) := by
 cases c with
 | true => exact srb_unsup hu
 | false => exact k
theorem srb_noPack {f F : Unit → Sem β} (w : String) (t : TypeId) (k : SR P ok RB (f ()) ρ (F ())) : SR P ok RB (noPack w t >>= f) ρ (noPack w t >>= F) := by
 unfold noPack
 rw [bind_assoc, bind_assoc]
 exact srb_program (srb_ifUnsup rfl k)
theorem srb_noPackHeld {f F : Unit → Sem β} (w : String) (t : TypeId) (k : SR P ok RB (f ()) ρ (F ())) : SR P ok RB (noPackHeld w t >>= f) ρ (noPackHeld w t >>= F) := by
 unfold noPackHeld
 simp only [bind_assoc]
 exact srb_program (srb_program (srb_ifUnsup rfl k))
theorem srb_noPackNamed {f F : Unit → Sem β} (w : String) (t : TypeId) (k : SR P ok RB (f ()) ρ (F ())) : SR P ok RB (noPackNamed w t >>= f) ρ (noPackNamed w t >>= F) := by
 unfold noPackNamed
 simp only [bind_assoc]
 exact srb_program (srb_program (srb_ifUnsup rfl k))
theorem srb_noPackMethods {f F : Unit → Sem β} (w : String) (t : TypeId) (k : SR P ok RB (f ()) ρ (F ())) : SR P ok RB (noPackMethods w t >>= f) ρ (noPackMethods w t >>= F) := by
 unfold noPackMethods
 simp only [bind_assoc]
 exact srb_program (srb_program (srb_ifUnsup rfl k))
theorem srb_under {f F : TypeId × TypeInfo → Sem β} (t : TypeId) (k : ∀ x, SR P ok RB (f x) ρ (F x)) : SR P ok RB (under t >>= f) ρ (under t >>= F) := by
 unfold under
 simp only [bind_assoc]
 refine srb_typeInfo fun i _ => ?_
 split
 · simp only [bind_assoc]
   exact srb_typeInfo fun j _ => k _
 · exact k _
theorem srb_kind {f F : Nat → Sem β} (t : TypeId) (k : ∀ n, SR P ok RB (f n) ρ (F n)) : SR P ok RB (kind t >>= f) ρ (kind t >>= F) := by
 unfold kind
 simp only [bind_assoc]
 refine srb_under t fun x => ?_
 split <;> first | exact k _ | exact srb_stuck
theorem srb_hasName {f F : Bool → Sem β} (t : TypeId) (k : ∀ n, SR P ok RB (f n) ρ (F n)) : SR P ok RB (hasName t >>= f) ρ (hasName t >>= F) := by
 unfold hasName
 simp only [bind_assoc]
 refine srb_typeInfo fun x _ => ?_
 split <;> exact k _
theorem srb_elem? {f F : Option TypeId → Sem β} (t : TypeId) (k : ∀ n, SR P ok RB (f n) ρ (F n)) : SR P ok RB (elem? t >>= f) ρ (elem? t >>= F) := by
 unfold elem?
 simp only [bind_assoc]
 refine srb_under t fun x => ?_
 split <;> exact k _
theorem srb_implements {f F : Bool → Sem β} (t u : TypeId) (k : ∀ n, SR P ok RB (f n) ρ (F n)) : SR P ok RB (implements t u >>= f) ρ (implements t u >>= F) := by
 unfold implements
 simp only [bind_assoc]
 refine srb_noPackMethods _ _ (srb_noPackMethods _ _ (srb_under t fun x => srb_under u fun y => ?_))
 split
 · exact k _
 · simp only [bind_assoc]
   exact srb_typeInfo fun i _ => k _
 · exact k _
theorem srb_directly {f F : Bool → Sem β} (t u : TypeId) (k : ∀ n, SR P ok RB (f n) ρ (F n)) : SR P ok RB (directlyAssignable t u >>= f) ρ (directlyAssignable t u >>= F) := by
 unfold directlyAssignable
 split
 · exact k _
 · simp only [bind_assoc]
   refine srb_hasName t fun b => ?_
   have rest : ∀ c : Bool, SR P ok RB ((if c then pure false else do
         let (t, ti) ← under t
         let (v, vi) ← under u
         match ti.desc, vi.desc with
         | .chan _ e, .chan .both e' => pure (t == v || e == e')
         | _, _ => pure (t == v) : Sem Bool) >>= f) ρ ((if c then pure false else do
         let (t, ti) ← under t
         let (v, vi) ← under u
         match ti.desc, vi.desc with
         | .chan _ e, .chan .both e' => pure (t == v || e == e')
         | _, _ => pure (t == v) : Sem Bool) >>= F) := fun c => by
     cases c with
     | true => exact k _
     | false =>
       simp only [Bool.false_eq_true, if_false, bind_assoc]
       exact srb_under t fun x => srb_under u fun y => by split <;> exact k _
   exact srb_hasName u fun c => rest (b && c)
theorem srb_cutType {f F : TypeId → Sem β} (n : String) (k : ∀ t, SR P ok RB (f t) ρ (F t)) : SR P ok RB (cutType n >>= f) ρ (cutType n >>= F) := by
 unfold cutType
 simp only [bind_assoc]
 refine srb_program ?_
 split
 · exact k _
 · exact srb_stuck
theorem srb_toType (hN : ρ P.globals.size P.globals.size) {f F : Value → Sem β} (t : TypeId) (k : ∀ v V, VR ok ρ v V → SR P ok RB (f v) ρ (F V)) : SR P ok RB (ReflectliteType.toType t >>= f) ρ (ReflectliteType.toType t >>= F) := by
 unfold ReflectliteType.toType
 simp only [bind_assoc]
 exact srb_cutType _ fun u => srb_handle hN t fun v V hv => k _ _ (.iface u (.agg' (VRs.one hv)))
theorem srb_typeStr {f F : String → Sem β} (t : TypeId) (k : ∀ s, SR P ok RB (f s) ρ (F s)) : SR P ok RB (typeStr t >>= f) ρ (typeStr t >>= F) := by
 unfold typeStr
 simp only [bind_assoc]
 refine srb_typeInfo fun i _ => ?_
 split
 · exact srb_unsup
 · exact k _
theorem srb_spelt {f F : String → Sem β} (t : TypeId) (k : ∀ s, SR P ok RB (f s) ρ (F s)) : SR P ok RB (spelt t >>= f) ρ (spelt t >>= F) := by
 unfold spelt
 simp only [bind_assoc]
 exact srb_noPackNamed _ _ (srb_typeStr t k)
theorem srb_panicString {m m' : String} {f F : α → Sem β} : SR P ok RB ((panicString m : Sem α) >>= f) ρ ((panicString m' : Sem α) >>= F) := by
 unfold panicString
 simp only [bind_assoc]
 exact srb_program rfl
theorem sr_panicString {RA : Rho → α → α → Prop} {m m' : String} : SR P ok RA (panicString m : Sem α) ρ (panicString m' : Sem α) := by
 unfold panicString
 exact srb_program rfl
theorem VRs.at1 {x X : Array Value} (h : VRs ok ρ x X) : (∃ v V, x = #[v] ∧ X = #[V] ∧ VR ok ρ v V) ∨ (x.size ≠ 1 ∧ X.size ≠ 1) := by
 by_cases hs : x.size = 1
 · left
   have hS : X.size = 1 := h.1 ▸ hs
   refine ⟨x[0], X[0], ?_, ?_, h.2 0 _ _ (Array.getElem?_eq_getElem (by omega)) (Array.getElem?_eq_getElem (by omega))⟩
   · apply Array.ext <;> simp [hs]
     intro i h1
     subst h1
     rfl
   · apply Array.ext <;> simp [hS]
     intro i h1
     subst h1
     rfl
 · exact .inr ⟨hs, h.1 ▸ hs⟩
def PartsR (ρ : Rho) : Option (TypeId × Addr × Nat) → Option (TypeId × Addr × Nat) → Prop
 | none, none => True
 | some (t, a, n), some (t', a', n') => t = t' ∧ AR ρ a a' ∧ n = n'
 | _, _ => False
theorem VRs.at3 {a b c : Value} {X : Array Value} (h : VRs ok ρ #[a, b, c] X) : ∃ A B C, X = #[A, B, C] ∧ VR ok ρ a A ∧ VR ok ρ b B ∧ VR ok ρ c C := by
 obtain ⟨L⟩ := X
 have hs := h.1
 match L, hs with
 | [A, B, C], _ => exact ⟨A, B, C, rfl, h.2 0 _ _ rfl rfl, h.2 1 _ _ rfl rfl, h.2 2 _ _ rfl rfl⟩
theorem parts_some (y : Value) (a : Addr) (n : Int) (hn : n ≠ 0) : ReflectliteValue.partsAny (.agg #[y, .pointer (some a), .int .u64 n]) = (do pure (some (← ofHandle y, a, n.toNat))) := by
 cases n with
 | ofNat m => cases m with
   | zero => exact absurd rfl hn
   | succ m => rfl
 | negSucc m => rfl
theorem parts_cases (v : Value) : (∃ y z, v = .agg #[y, z, .int .u64 0] ∧ ReflectliteValue.partsAny v = pure none) ∨
   (∃ y a n, n ≠ 0 ∧ v = .agg #[y, .pointer (some a), .int .u64 n] ∧ ReflectliteValue.partsAny v = (do pure (some (← ofHandle y, a, n.toNat)))) ∨ ReflectliteValue.partsAny v = stuck "reflectlite: a Value expected" := by
 cases v with
 | agg x =>
   obtain ⟨l⟩ := x
   match l with
   | [] => exact .inr (.inr rfl)
   | [a] => exact .inr (.inr rfl)
   | [a, b] => exact .inr (.inr rfl)
   | a :: b :: c :: d :: l => exact .inr (.inr rfl)
   | [a, b, c] =>
     cases c with
     | int kd n =>
       cases kd with
       | u64 =>
         by_cases h0 : n = 0
         · subst h0; exact .inl ⟨a, b, rfl, rfl⟩
         · cases b with
           | pointer p =>
             cases p with
             | some p => exact .inr (.inl ⟨a, p, n, h0, rfl, parts_some a p n h0⟩)
             | none => exact .inr (.inr (by cases n with
               | ofNat m => cases m with
                 | zero => exact absurd rfl h0
                 | succ m => rfl
               | negSucc m => rfl))
           | _ => exact .inr (.inr (by cases n with
               | ofNat m => cases m with
                 | zero => exact absurd rfl h0
                 | succ m => rfl
               | negSucc m => rfl))
       | _ => exact .inr (.inr rfl)
     | _ => exact .inr (.inr rfl)
 | _ => exact .inr (.inr rfl)
theorem srb_partsAny (hg : Ext P ρ ρ) (hN : ρ P.globals.size P.globals.size) {f F : Option (TypeId × Addr × Nat) → Sem β} {v V : Value} (hv : VR ok ρ v V) (k : ∀ x X, PartsR ρ x X → SR P ok RB (f x) ρ (F X)) :
   SR P ok RB (ReflectliteValue.partsAny v >>= f) ρ (ReflectliteValue.partsAny V >>= F) := by
 rcases parts_cases v with ⟨y, z, rfl, e⟩ | ⟨y, a, n, hn, rfl, e⟩ | e
 · rw [e]
   cases hv with
   | agg hs hx =>
     obtain ⟨A, B, C, rfl, ha, hb, hc⟩ := VRs.at3 ⟨hs, hx⟩
     cases hc
     exact k none none trivial
 · rw [e]
   cases hv with
   | agg hs hx =>
     obtain ⟨A, B, C, rfl, ha, hb, hc⟩ := VRs.at3 ⟨hs, hx⟩
     cases hc
     cases hb with
     | ptr hp =>
       rw [parts_some _ _ _ hn]
       simp only [bind_assoc]
       exact srb_ofHandle hg hN ha fun t => k _ _ ⟨rfl, hp, rfl⟩
 · rw [e]
   exact srb_stuck
theorem srb_parts (hg : Ext P ρ ρ) (hN : ρ P.globals.size P.globals.size) {f F : Option (TypeId × Addr × Nat) → Sem β} {v V : Value} (hv : VR ok ρ v V) (k : ∀ x X, PartsR ρ x X → SR P ok RB (f x) ρ (F X)) :
   SR P ok RB (ReflectliteValue.parts v >>= f) ρ (ReflectliteValue.parts V >>= F) := by
 unfold ReflectliteValue.parts
 simp only [bind_assoc]
 refine srb_partsAny hg hN hv fun x X hx => ?_
 match x, X, hx with
 | none, none, _ => exact k none none trivial
 | some (t, a, n), some (t', a', n'), ⟨h1, h2, h3⟩ =>
   subst h1; subst h3
   simp only [bind_assoc]
   exact srb_noPack _ _ (k _ _ ⟨rfl, h2, rfl⟩)
theorem srb_mk (hN : ρ P.globals.size P.globals.size) {f F : Value → Sem β} (t : TypeId) {a A : Addr} (ha : AR ρ a A) (fl : Nat) (k : ∀ v V, VR ok ρ v V → SR P ok RB (f v) ρ (F V)) : SR P ok RB (ReflectliteValue.mk t a fl >>= f) ρ (ReflectliteValue.mk t A fl >>= F) := by
 unfold ReflectliteValue.mk
 simp only [bind_assoc]
 exact srb_handle hN t fun v V hv => srb_kind t fun n => k _ _ (.agg' (((VRs.one hv).push (.ptr ha)).push (.int _ _)))
theorem srb_valueError {m : String} {n n' : Nat} {f F : α → Sem β} (e : n = n') : SR P ok RB ((ReflectliteValue.valueError m n : Sem α) >>= f) ρ ((ReflectliteValue.valueError m n' : Sem α) >>= F) := by
 subst e
 unfold ReflectliteValue.valueError
 simp only [bind_assoc]
 refine srb_cutType _ fun t => ?_
 unfold elemOf
 simp only [bind_assoc]
 refine srb_underlying fun d _ => ?_
 cases d with
 | pointer e => exact srb_newVar _ (.agg' ((VRs.one (.string _)).push (.int _ _))) fun a A ρ' e ha => rfl
 | _ => exact srb_stuck
theorem VRs.at2 {a b : Value} {X : Array Value} (h : VRs ok ρ #[a, b] X) : ∃ A B, X = #[A, B] ∧ VR ok ρ a A ∧ VR ok ρ b B := by
 obtain ⟨L⟩ := X
 have hs := h.1
 match L, hs with
 | [A, B], _ => exact ⟨A, B, rfl, h.2 0 _ _ rfl rfl, h.2 1 _ _ rfl rfl⟩
theorem typeOf_bad {x : Array Value} (h : x.size ≠ 1) : ReflectliteType.typeOf x = stuck "reflectlite.TypeOf: an interface value expected" := by
 obtain ⟨l⟩ := x
 match l, h with
 | [], _ => rfl
 | [a], h => exact absurd rfl h
 | a :: b :: l, h => rfl
theorem ofRtype_bad {x : Array Value} (h : x.size ≠ 1) : ReflectliteType.ofRtype (.agg x) = stuck "reflectlite: an rtype expected" := by
 obtain ⟨l⟩ := x
 match l, h with
 | [], _ => rfl
 | [a], h => exact absurd rfl h
 | a :: b :: l, h => rfl
theorem method_bad {g : TypeId → Sem Value} {x : Array Value} (h : x.size ≠ 1) : ReflectliteType.method g x = stuck "reflectlite: a method of rtype takes its receiver" := by
 obtain ⟨l⟩ := x
 match l, h with
 | [], _ => rfl
 | [a], h => exact absurd rfl h
 | a :: b :: l, h => rfl
theorem abiMethod_bad {g : TypeId → Sem Value} {x : Array Value} (h : x.size ≠ 1) : ReflectliteType.abiMethod g x = stuck "abi.Type: a method takes its receiver" := by
 obtain ⟨l⟩ := x
 match l, h with
 | [], _ => rfl
 | [a], h => exact absurd rfl h
 | a :: b :: l, h => rfl
theorem vmethod_bad {z : Sem Value} {g : TypeId → Addr → Nat → Nat → Sem Value} {x : Array Value} (h : x.size ≠ 1) : ReflectliteValue.method z g x = stuck "reflectlite: a method of Value takes its receiver" := by
 obtain ⟨l⟩ := x
 match l, h with
 | [], _ => rfl
 | [a], h => exact absurd rfl h
 | a :: b :: l, h => rfl
theorem vmethodAny_bad {z : Sem Value} {g : TypeId → Addr → Nat → Nat → Sem Value} {x : Array Value} (h : x.size ≠ 1) : ReflectliteValue.methodAny z g x = stuck "reflectlite: a method of Value takes its receiver" := by
 obtain ⟨l⟩ := x
 match l, h with
 | [], _ => rfl
 | [a], h => exact absurd rfl h
 | a :: b :: l, h => rfl
theorem nat_typeOf (hN : ρ P.globals.size P.globals.size) {x X : Array Value} (h : VRs ok ρ x X) : SR P ok (VR ok) (ReflectliteType.typeOf x) ρ (ReflectliteType.typeOf X) := by
 rcases h.at1 with ⟨v, V, rfl, rfl, hv⟩ | ⟨h1, h2⟩
 · cases hv with
   | nilIface => exact sr_pure .nilIface
   | iface t h => exact sr_of_bind (srb_toType hN t fun v V hv => sr_pure hv)
   | _ => exact sr_stuck
 · rw [typeOf_bad h1]
   exact sr_stuck
theorem srb_ofRtype (hg : Ext P ρ ρ) (hN : ρ P.globals.size P.globals.size) {f F : TypeId → Sem β} {v V : Value} (hv : VR ok ρ v V) (k : ∀ t, SR P ok RB (f t) ρ (F t)) : SR P ok RB (ReflectliteType.ofRtype v >>= f) ρ (ReflectliteType.ofRtype V >>= F) := by
 cases hv with
 | agg hs hx =>
   rcases VRs.at1 ⟨hs, hx⟩ with ⟨u, U, rfl, rfl, hu⟩ | ⟨h1, h2⟩
   · have e : ∀ z : Value, ReflectliteType.ofRtype (.agg #[z]) = (do
         let t ← ofHandle z
         noPack "a Type asked or handed on" t
         pure t) := fun _ => rfl
     rw [e, e]
     simp only [bind_assoc]
     exact srb_ofHandle hg hN hu fun t => srb_noPack _ _ (k t)
   · rw [ofRtype_bad h1]
     exact srb_stuck
 | _ => exact srb_stuck
theorem nat_method (hg : Ext P ρ ρ) (hN : ρ P.globals.size P.globals.size) {g : TypeId → Sem Value} (hk : ∀ t, SR P ok (VR ok) (g t) ρ (g t)) {x X : Array Value} (h : VRs ok ρ x X) : SR P ok (VR ok) (ReflectliteType.method g x) ρ (ReflectliteType.method g X) := by
 rcases h.at1 with ⟨v, V, rfl, rfl, hv⟩ | ⟨h1, h2⟩
 · exact srb_ofRtype hg hN hv hk
 · rw [method_bad h1]
   exact sr_stuck
theorem nat_elem (hN : ρ P.globals.size P.globals.size) (t : TypeId) : SR P ok (VR ok) (ReflectliteType.elem t) ρ (ReflectliteType.elem t) := by
 unfold ReflectliteType.elem
 refine srb_elem? t fun e => ?_
 cases e with
 | some e => exact sr_of_bind (srb_toType hN e fun v V hv => sr_pure hv)
 | none => exact srb_spelt t fun s => sr_panicString
theorem nat_comparable (t : TypeId) : SR P ok (VR ok) (do noPackHeld "Comparable" t; pure (.bool (← typeInfo t).comparable)) ρ (do noPackHeld "Comparable" t; pure (.bool (← typeInfo t).comparable)) :=
 srb_noPackHeld _ _ (srb_typeInfo fun i _ => sr_pure (.bool _))
theorem nat_kind (hg : Ext P ρ ρ) (hN : ρ P.globals.size P.globals.size) {x X : Array Value} (h : VRs ok ρ x X) : SR P ok (VR ok) (ReflectliteType.abiMethod (fun t => do pure (.int .u8 (← kind t))) x) ρ (ReflectliteType.abiMethod (fun t => do pure (.int .u8 (← kind t))) X) := by
 rcases h.at1 with ⟨v, V, rfl, rfl, hv⟩ | ⟨h1, h2⟩
 · exact srb_ofHandle hg hN hv fun t => srb_noPack _ _ (srb_kind t fun n => sr_pure (.int _ _))
 · rw [abiMethod_bad h1]
   exact sr_stuck
theorem nat_relation (hg : Ext P ρ ρ) (hN : ρ P.globals.size P.globals.size) {w : String} {g : TypeId → TypeId → Sem Bool} (hk : ∀ t u {f F : Bool → Sem Value}, (∀ b, SR P ok (VR ok) (f b) ρ (F b)) → SR P ok (VR ok) (g t u >>= f) ρ (g t u >>= F)) {x X : Array Value} (h : VRs ok ρ x X) :
   SR P ok (VR ok) (ReflectliteType.relation w g x) ρ (ReflectliteType.relation w g X) := by
 obtain ⟨l⟩ := x
 match l, h with
 | [], h => exact sr_stuck
 | [a], h => exact sr_stuck
 | a :: b :: c :: l, h => exact sr_stuck
 | [a, b], h =>
   obtain ⟨A, B, rfl, ha, hb⟩ := h.at2
   cases hb with
   | iface t hu => exact srb_ofRtype hg hN hu fun t => srb_ofRtype hg hN ha fun u => hk t u fun b => sr_pure (.bool _)
   | nilIface => exact sr_panicString
   | _ => exact sr_stuck
theorem nat_implements (t u : TypeId) {f F : Bool → Sem Value} (k : ∀ b, SR P ok (VR ok) (f b) ρ (F b)) : SR P ok (VR ok) (ReflectliteType.implements_ t u >>= f) ρ (ReflectliteType.implements_ t u >>= F) := by
 unfold ReflectliteType.implements_
 simp only [bind_assoc]
 refine srb_kind t fun n => ?_
 have rest : SR P ok (VR ok) (noPackMethods "Implements" u >>= fun _ => noPack "Implements" t >>= fun _ => implements t u >>= f) ρ (noPackMethods "Implements" u >>= fun _ => noPack "Implements" t >>= fun _ => implements t u >>= F) :=
   srb_noPackMethods _ _ (srb_noPack _ _ (srb_implements t u k))
 cases hn : (n != 20) with
 | true =>
   simp only [if_true, bind_assoc]
   exact srb_panicString
 | false =>
   simp only [Bool.false_eq_true, if_false, bind_assoc]
   exact rest
theorem nat_assignable (t u : TypeId) {f F : Bool → Sem Value} (k : ∀ b, SR P ok (VR ok) (f b) ρ (F b)) : SR P ok (VR ok) (ReflectliteType.assignableTo t u >>= f) ρ (ReflectliteType.assignableTo t u >>= F) := by
 unfold ReflectliteType.assignableTo
 have rest : SR P ok (VR ok) (directlyAssignable t u >>= fun a => implements t u >>= fun b => f (a || b)) ρ (directlyAssignable t u >>= fun a => implements t u >>= fun b => F (a || b)) :=
   srb_directly t u fun a => srb_implements t u fun b => k _
 cases hn : (t != u) with
 | true =>
   simp only [if_true, bind_assoc, pure_bind]
   exact srb_noPackMethods _ _ (srb_noPackMethods _ _ rest)
 | false =>
   simp only [Bool.false_eq_true, if_false, bind_assoc, pure_bind]
   exact rest
theorem sr_unpack (hN : ρ P.globals.size P.globals.size) {v V : Value} (hv : VR ok ρ v V) : SR P ok (VR ok) (ReflectliteValue.unpack v) ρ (ReflectliteValue.unpack V) := by
 cases hv with
 | nilIface => exact sr_pure (.agg' (((VRs.one .pnil).push .pnil).push (.int _ _)))
 | iface t h => exact srb_newVar t h fun a A ρ' e ha => sr_of_bind (srb_mk (e.le _ _ hN) t ha 0 fun v V hv => sr_pure hv)
 | _ => exact sr_stuck
theorem nat_valueOf (hN : ρ P.globals.size P.globals.size) {x X : Array Value} (h : VRs ok ρ x X) : SR P ok (VR ok) (ReflectliteValue.unpack (x.getD 0 (.tuple #[]))) ρ (ReflectliteValue.unpack (X.getD 0 (.tuple #[]))) := sr_unpack hN (h.getD 0 .undef)
theorem nat_vmethod (hg : Ext P ρ ρ) (hN : ρ P.globals.size P.globals.size) {z : Sem Value} {g : TypeId → Addr → Nat → Nat → Sem Value} (hz : SR P ok (VR ok) z ρ z) (hk : ∀ t a A n m, AR ρ a A → SR P ok (VR ok) (g t a n m) ρ (g t A n m)) {x X : Array Value} (h : VRs ok ρ x X) :
   SR P ok (VR ok) (ReflectliteValue.method z g x) ρ (ReflectliteValue.method z g X) := by
 rcases h.at1 with ⟨v, V, rfl, rfl, hv⟩ | ⟨h1, h2⟩
 · refine srb_parts hg hN hv fun x X hx => ?_
   match x, X, hx with
   | none, none, _ => exact hz
   | some (t, a, n), some (t', a', n'), ⟨h1, h2, h3⟩ => subst h1; subst h3; exact hk _ _ _ _ _ h2
 · rw [vmethod_bad h1]
   exact sr_stuck
theorem nat_vmethodAny (hg : Ext P ρ ρ) (hN : ρ P.globals.size P.globals.size) {z : Sem Value} {g : TypeId → Addr → Nat → Nat → Sem Value} (hz : SR P ok (VR ok) z ρ z) (hk : ∀ t a A n m, AR ρ a A → SR P ok (VR ok) (g t a n m) ρ (g t A n m)) {x X : Array Value} (h : VRs ok ρ x X) :
   SR P ok (VR ok) (ReflectliteValue.methodAny z g x) ρ (ReflectliteValue.methodAny z g X) := by
 rcases h.at1 with ⟨v, V, rfl, rfl, hv⟩ | ⟨h1, h2⟩
 · refine srb_partsAny hg hN hv fun x X hx => ?_
   match x, X, hx with
   | none, none, _ => exact hz
   | some (t, a, n), some (t', a', n'), ⟨h1, h2, h3⟩ => subst h1; subst h3; exact hk _ _ _ _ _ h2
 · rw [vmethodAny_bad h1]
   exact sr_stuck
theorem sr_valueError {m : String} {n : Nat} {RA : Rho → α → α → Prop} : SR P ok RA (ReflectliteValue.valueError m n : Sem α) ρ (ReflectliteValue.valueError m n : Sem α) := sr_of_bind (srb_valueError rfl)
theorem dead_valueError {m : String} {n : Nat} : Dead P (ReflectliteValue.valueError m n : Sem α) := by
 show Dead P ((match P.cutTypes.find? (·.1 == "*internal/reflectlite.ValueError") with | some (_, t) => pure t | none => stuck ("the program has no row for the type " ++ "*internal/reflectlite.ValueError") : Sem TypeId) >>= fun t => elemOf t >>= fun e => newVar e (.agg #[strVal m, .int .u8 (Int.ofNat n)]) >>= fun r => goPanic (.iface t (.pointer (some r))))
 cases P.cutTypes.find? (·.1 == "*internal/reflectlite.ValueError") with
 | none => exact (rfl : true = true)
 | some x =>
   obtain ⟨y, t⟩ := x
   show Dead P (((match P.underlying t with | some d => pure d | none => stuck "no such type" : Sem TypeDesc) >>= _) >>= _)
   cases P.underlying t with
   | none => exact (rfl : true = true)
   | some d => cases d <;> first | exact (rfl : true = true) | exact fun b => (rfl : true = true)
theorem nat_isNil (t : TypeId) {a A : Addr} (ha : AR ρ a A) (n k : Nat) : SR P ok (VR ok) (ReflectliteValue.isNil t a n k) ρ (ReflectliteValue.isNil t A n k) := by
 unfold ReflectliteValue.isNil
 have rest : SR P ok (VR ok) (loadVar t a >>= fun v => (match v with | .chan none | .nilFunc | .nilIface | .map none | .pointer none | .slice none _ _ => pure (.bool true) | _ => pure (.bool false) : Sem Value)) ρ
     (loadVar t A >>= fun v => (match v with | .chan none | .nilFunc | .nilIface | .map none | .pointer none | .slice none _ _ => pure (.bool true) | _ => pure (.bool false) : Sem Value)) :=
   srb_loadVar ha t fun v V hv => by
     cases hv with
     | hole h => cases V with
       | pointer a => cases a <;> first | (cases h; done) | exact sr_pure (.bool false)
       | slice a _ _ => cases a <;> first | (cases h; done) | exact sr_pure (.bool false)
       | map a => cases a <;> first | (cases h; done) | exact sr_pure (.bool false)
       | chan a => cases a <;> first | (cases h; done) | exact sr_pure (.bool false)
       | _ => first | (cases h; done) | exact sr_pure (.bool false)
     | _ => exact sr_pure (.bool _)
 cases (!([18, 19, 20, 21, 22, 23, 26].contains k)) with
 | true => exact srb_valueError rfl
 | false => exact rest
theorem nat_velem (hN : ρ P.globals.size P.globals.size) (t : TypeId) {a A : Addr} (ha : AR ρ a A) (n k : Nat) : SR P ok (VR ok) (ReflectliteValue.elem t a n k) ρ (ReflectliteValue.elem t A n k) := by
 unfold ReflectliteValue.elem
 cases hk : (k != 20 && k != 22) with
 | true => exact srb_valueError rfl
 | false =>
   refine srb_loadVar ha t fun v V hv => srb_elem? t fun e => ?_
   have hk' : k = 20 ∨ k = 22 := by simp at hk; omega
   rcases hk' with rfl | rfl
   · exact sr_unpack hN hv
   · cases hv with
     | pnil => exact sr_pure (.agg' (((VRs.one .pnil).push .pnil).push (.int _ _)))
     | ptr hp => cases e with
       | some e => exact sr_of_bind (srb_mk hN e hp _ fun v V hv => sr_pure hv)
       | none => exact sr_valueError
     | hole => exact SR.dead dead_valueError
     | _ => exact sr_valueError
end
end Go.Proofs.YtajnfkmkombajabDoor
