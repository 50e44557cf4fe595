/-
  Programs of effects that are alike: Value.Set; the model's own functions of package reflectlite as natives. No program in sight.
  == of values that are alike: told alike, where no block is marked as a string's. No program in sight.
  == of values that are alike, of whatever type. No program in sight.
-/
import Derived.Test.YtajnfkmkombajabDoorQSD06
set_option linter.unusedVariables false
set_option linter.unusedSimpArgs false
namespace Go.Proofs.YtajnfkmkombajabDoor
open Go Go.Extern Go.Extern.Rtype
section
variable {P : Program} {ok : Fn → Prop} {ρ : Rho}
theorem set_two (v x : Value) : ReflectliteValue.set #[v, x] = (do
   let (some (dst, a, fl), some (src, b, _)) := (← ReflectliteValue.parts v, ← ReflectliteValue.parts x)
     | unsupported (.noEntry "extern/(internal/reflectlite.Value).Set.zeroValue")
   if fl / ReflectliteValue.flagAddr % 2 == 0 then unsupported (.noEntry "extern/(internal/reflectlite.Value).Set.unaddressable")
   let val ← loadVar src b
   if ← directlyAssignable dst src then storeVar dst a val
   else if ← implements dst src then
     if (← kind src) == 20 then
       match val with
       | .nilIface => unsupported (.noEntry "extern/reflectlite: a nil value of one interface type handed on as a value of another")
       | _ => storeVar dst a val
     else storeVar dst a (.iface src val)
   else panicString ("reflectlite.Set: value of type " ++ (← spelt src) ++ " is not assignable to type " ++ (← spelt dst))
   pure (.tuple #[])) := rfl
theorem nat_set (hg : Ext P ρ ρ) (hN : ρ P.globals.size P.globals.size) {x X : Array Value} (h : VRs ok ρ x X) : SR P ok (VR ok) (ReflectliteValue.set x) ρ (ReflectliteValue.set X) := by
 obtain ⟨l⟩ := x
 match l, h with
 | [], h => exact sr_stuck
 | [a], h => exact sr_stuck
 | a :: b :: c :: l, h => exact sr_stuck
 | [v, u], h =>
   obtain ⟨V, U, rfl, hv, hu⟩ := h.at2
   rw [set_two, set_two]
   refine srb_parts hg hN hv fun p P' hp => srb_parts hg hN hu fun q Q hq => ?_
   match p, P', hp, q, Q, hq with
   | none, none, _, _, _, _ => exact sr_unsup
   | some _, some _, _, none, none, _ => exact sr_unsup
   | some (dst, a, fl), some (dst', a', fl'), ⟨h1, h2, h3⟩, some (src, b, g), some (src', b', g'), ⟨k1, k2, k3⟩ =>
     subst h1; subst h3; subst k1; subst k3
     simp only
     have fin : ∀ {z Z : Value}, VR ok ρ z Z → SR P ok (VR ok) (storeVar dst a z >>= fun _ => pure (.tuple #[])) ρ (storeVar dst a' Z >>= fun _ => pure (.tuple #[])) := fun hz => srb_storeVar h2 dst hz (sr_pure .undef)
     cases hfl : (fl / ReflectliteValue.flagAddr % 2 == 0) with
     | true => exact srb_unsup
     | false =>
       simp only [Bool.false_eq_true, if_false]
       refine srb_loadVar k2 src fun val VAL hval => srb_directly dst src fun d => ?_
       cases d with
       | true => exact fin hval
       | false =>
         simp only [Bool.false_eq_true, if_false]
         refine srb_implements dst src fun i => ?_
         cases i with
         | true =>
           simp only [if_true]
           refine srb_kind src fun n => ?_
           cases hn : (n == 20) with
           | true =>
             simp only [if_true]
             cases hval <;> first | exact srb_unsup | skip
             · exact fin (.bool _)
             · exact fin (.int _ _)
             · exact fin (.string _)
             · exact fin .pnil
             · rename_i h; exact fin (.ptr h)
             · exact fin (.snil _ _)
             · rename_i h; exact fin (.slice _ _ h)
             · exact fin .mnil
             · rename_i h; exact fin (.map h)
             · exact fin .cnil
             · rename_i h1 h2 h3 h4 h5; exact fin (.func h1 h2 h3 h4 h5)
             · exact fin .nilFunc
             · rename_i h; exact fin (.iface _ h)
             · rename_i h1 h2; exact fin (.agg h1 h2)
             · rename_i h1 h2; exact fin (.tuple h1 h2)
             · rename_i h; cases VAL <;> first | exact fin (.hole h) | cases h
             · exact fin .holeF
           | false =>
             simp only [Bool.false_eq_true, if_false]
             exact fin (.iface _ hval)
         | false =>
           simp only [Bool.false_eq_true, if_false]
           exact srb_spelt src fun s => srb_spelt dst fun s' => srb_panicString
end
section
variable {P : Program} {good : FuncId → Bool} {G : Gs} (hGN : G.gl P.globals.size = true) {f : FuncId} {fn : Func} (h1 : P.funcs[f]? = some fn) (h2 : (fn.name == "runtime.NumGoroutine") = false) (h3 : fn.body = none) (h4 : Extern.findNext fn = none)
include hGN h1 h2 h3 h4
theorem native_typeOf (h5 : Extern.find fn = some ReflectliteType.typeOf) : Native P good G f := .inl ⟨fn, _, h1, h2, h3, h4, h5, fun ρ x X hg hG hx => nat_typeOf (hG _ hGN) hx⟩
theorem native_elem (h5 : Extern.find fn = some (ReflectliteType.method ReflectliteType.elem)) : Native P good G f := .inl ⟨fn, _, h1, h2, h3, h4, h5, fun ρ x X hg hG hx => nat_method hg (hG _ hGN) (fun t => nat_elem (hG _ hGN) t) hx⟩
theorem native_comparable (h5 : Extern.find fn = some (ReflectliteType.method fun t => do noPackHeld "Comparable" t; pure (.bool (← typeInfo t).comparable))) : Native P good G f := .inl ⟨fn, _, h1, h2, h3, h4, h5, fun ρ x X hg hG hx => nat_method hg (hG _ hGN) (fun t => nat_comparable t) hx⟩
theorem native_implements (h5 : Extern.find fn = some (ReflectliteType.relation "Implements" ReflectliteType.implements_)) : Native P good G f := .inl ⟨fn, _, h1, h2, h3, h4, h5, fun ρ x X hg hG hx => nat_relation hg (hG _ hGN) (fun t u _ _ k => nat_implements t u k) hx⟩
theorem native_assignable (h5 : Extern.find fn = some (ReflectliteType.relation "AssignableTo" ReflectliteType.assignableTo)) : Native P good G f := .inl ⟨fn, _, h1, h2, h3, h4, h5, fun ρ x X hg hG hx => nat_relation hg (hG _ hGN) (fun t u _ _ k => nat_assignable t u k) hx⟩
theorem native_kind (h5 : Extern.find fn = some (ReflectliteType.abiMethod fun t => do pure (.int .u8 (← kind t)))) : Native P good G f := .inl ⟨fn, _, h1, h2, h3, h4, h5, fun ρ x X hg hG hx => nat_kind hg (hG _ hGN) hx⟩
theorem native_valueOf (h5 : Extern.find fn = some (fun args => ReflectliteValue.unpack (args.getD 0 (.tuple #[])))) : Native P good G f := .inl ⟨fn, _, h1, h2, h3, h4, h5, fun ρ x X hg hG hx => nat_valueOf (hG _ hGN) hx⟩
theorem native_vtype (h5 : Extern.find fn = some (ReflectliteValue.methodAny (ReflectliteValue.valueError "reflectlite.Value.Type" 0) (fun t _ _ _ => ReflectliteType.toType t))) : Native P good G f :=
 .inl ⟨fn, _, h1, h2, h3, h4, h5, fun ρ x X hg hG hx => nat_vmethodAny hg (hG _ hGN) sr_valueError (fun t _ _ _ _ _ => sr_of_bind (srb_toType (hG _ hGN) t fun v V hv => sr_pure hv)) hx⟩
theorem native_isNil (h5 : Extern.find fn = some (ReflectliteValue.method (ReflectliteValue.valueError "reflectlite.Value.IsNil" 0) ReflectliteValue.isNil)) : Native P good G f :=
 .inl ⟨fn, _, h1, h2, h3, h4, h5, fun ρ x X hg hG hx => nat_vmethod hg (hG _ hGN) sr_valueError (fun t a A n m ha => nat_isNil t ha n m) hx⟩
theorem native_velem (h5 : Extern.find fn = some (ReflectliteValue.method (ReflectliteValue.valueError "reflectlite.Value.Elem" 0) ReflectliteValue.elem)) : Native P good G f :=
 .inl ⟨fn, _, h1, h2, h3, h4, h5, fun ρ x X hg hG hx => nat_vmethod hg (hG _ hGN) sr_valueError (fun t a A n m ha => nat_velem (hG _ hGN) t ha n m) hx⟩
theorem native_vkind (h5 : Extern.find fn = some (ReflectliteValue.method (pure (.int .u8 0)) fun _ _ _ k => pure (.int .u8 (Int.ofNat k)))) : Native P good G f :=
 .inl ⟨fn, _, h1, h2, h3, h4, h5, fun ρ x X hg hG hx => nat_vmethod (g := fun _ _ _ k => pure (.int .u8 (Int.ofNat k))) hg (hG _ hGN) (sr_pure (.int .u8 0)) (fun t a A n m ha => sr_pure (.int .u8 (Int.ofNat m))) hx⟩
omit hGN in
theorem native_lost (h5 : Extern.find fn = none) (h6 : (fn.name.endsWith ".init" && !fn.name.startsWith "(" && !fn.name.startsWith "gosem.") = false) : Native P good G f := .inr ⟨fn, h1, h2, h3, h4, h5, h6⟩
theorem native_set (h5 : Extern.find fn = some ReflectliteValue.set) : Native P good G f := .inl ⟨fn, _, h1, h2, h3, h4, h5, fun ρ x X hg hG hx => nat_set hg (hG _ hGN) hx⟩
end
end Go.Proofs.YtajnfkmkombajabDoor
namespace Go.Proofs.YtajnfkmkombajabDoor
open Go
section
variable {α β : Type} {P : Program} {ok : Fn → Prop} {Zo : Olds} {Sh : Nat → Prop} {ρ : Rho}
def ST (P : Program) (ok : Fn → Prop) (Zo : Olds) (Sh : Nat → Prop) (RA : Rho → α → α → Prop) (s : Sem α) (ρ : Rho) (S : Sem α) : Prop :=
 ∀ (ρ' : Rho) (M : Nat → Prop) (w W : World) (es ES : Array Event), Ext P ρ ρ' → HR P ok Zo Sh ρ' M w W →
   (∀ j, W.drawn + j < (Go.Result.world (S.runT P W ES).1).drawn → w.tape (w.drawn + j) = W.tape (W.drawn + j)) → Same P ok RA Zo Sh s S ρ' M w W es ES
theorem ST.of_sr {RA : Rho → α → α → Prop} {s S : Sem α} (h : ∀ ρ', Ext P ρ ρ' → SR P ok RA s ρ' S) : ST P ok Zo Sh RA s ρ S := fun ρ' _ _ _ es ES he hr ht => (h ρ' he).sim es ES hr ht
theorem ST.ext {RA : Rho → α → α → Prop} {s S : Sem α} {ρ' : Rho} (h : ST P ok Zo Sh RA s ρ S) (e : Ext P ρ ρ') : ST P ok Zo Sh RA s ρ' S := fun ρ2 M w W es ES he hr ht => h ρ2 M w W es ES (e.trans he) hr ht
theorem runT_bind' (s : Sem α) (f : α → Sem β) (P : Program) (w : World) (es : Array Event) : (s >>= f).runT P w es = (match s.runT P w es with | (.ok a w', es') => (f a).runT P w' es' | (.halt h w', es') => (.halt h w', es')) := by
 show (s.bind f).runT P w es = _
 induction s generalizing w es with
 | pure a => rfl
 | load m a k ih =>
   simp only [Sem.bind, Sem.runT]
   split
   · exact ih _ _ _
   · split
     · exact ih _ _ _
     · rfl
 | store m a v k ih =>
   cases hp : plainV v with
   | false => rw [Sem.bind, runT_store_agg P _ _ _ _ _ _ hp, runT_store_agg P _ _ _ _ _ _ hp]
   | true =>
     rw [Sem.bind, runT_store P _ _ _ _ _ _ hp, runT_store P _ _ _ _ _ _ hp]
     split
     · split
       · rfl
       · exact ih _ _
     · split
       · exact ih _ _
       · rfl
 | new o k ih => exact ih _ _ _
 | shape r k ih => exact ih _ _ _
 | freeze a n k ih => exact ih _ _
 | frozen a k ih => exact ih _ _ _
 | getObj r k ih =>
   simp only [Sem.bind, Sem.runT]
   split
   · rfl
   · exact ih _ _ _
   · rfl
 | setObj r o k ih =>
   simp only [Sem.bind, Sem.runT]
   split
   · rfl
   · exact ih _ _
   · rfl
 | choose q k ih =>
   simp only [Sem.bind, Sem.runT]
   split
   · exact ih _ _ _
   · exact ih _ _ _
 | sys c k ih => exact ih _ _ _
 | program k ih => exact ih _ _ _
 | mark m k ih => exact ih _ _
 | halt h => rfl
theorem ST.bind {RA : Rho → α → α → Prop} {RB : Rho → β → β → Prop} {s S : Sem α} {f F : α → Sem β} (h : ST P ok Zo Sh RA s ρ S) (hk : ∀ a b ρ', Ext P ρ ρ' → RA ρ' a b → ST P ok Zo Sh RB (f a) ρ' (F b)) : ST P ok Zo Sh RB (s >>= f) ρ (S >>= F) := by
 intro ρ' M w W es ES he hr ht
 rw [runT_bind'] at ht
 have ht1 : ∀ j, W.drawn + j < (Go.Result.world (S.runT P W ES).1).drawn → w.tape (w.drawn + j) = W.tape (W.drawn + j) := fun j hj => by
   refine ht j ?_
   cases hS : S.runT P W ES with
   | mk r es' =>
     rw [hS] at hj
     cases r with
     | ok a w' => exact Nat.lt_of_lt_of_le hj (runT_drawn P (F a) w' es')
     | halt x w' => exact hj
 rcases h ρ' M w W es ES he hr ht1 with ⟨x, w', hp, h1⟩ | ⟨a, b, w', W', ρ2, M2, es2, new, k1, k2, k3, k4, k5, k6, k7, k8, k9, k10⟩
 · left
   refine ⟨x, w', hp, ?_⟩
   rw [runT_bind']
   cases hs : s.runT P w es with
   | mk r es' => rw [hs] at h1; simp only at h1; subst h1; rfl
 · rw [k2] at ht
   have hd := k6.drawn
   have h2 := hk a b ρ2 (he.trans k4) k3 ρ2 M2 w' W' es2 (ES ++ new) k5.ext k5 (fun j hj => by
     have := ht (W'.drawn - W.drawn + j) (by
       have e : W.drawn + (W'.drawn - W.drawn + j) = W'.drawn + j := by omega
       rw [e]; exact hj)
     rw [show w.drawn + (W'.drawn - W.drawn + j) = w'.drawn + j by omega, show W.drawn + (W'.drawn - W.drawn + j) = W'.drawn + j by omega] at this
     rw [k7, k6.tape]; exact this)
   exact h2.ahead (by rw [runT_bind', k1]) (by rw [runT_bind', k2]) k4 k6 k7 k8 k9 k10
def EqR {α : Type} (_ : Rho) (a b : α) : Prop := a = b
theorem ST.pure {a : α} : ST P ok Zo Sh EqR (Pure.pure a : Sem α) ρ (Pure.pure a) := .of_sr fun _ _ => sr_pure rfl
theorem ST.stuck {RA : Rho → α → α → Prop} {m : String} {S : Sem α} : ST P ok Zo Sh RA (Go.stuck m) ρ S := .of_sr fun _ _ => sr_stuck
theorem ST.unsup {RA : Rho → α → α → Prop} {u : Unsupported} {S : Sem α} (h : plainHalt (.unsupported u) = true := by rfl) : ST P ok Zo Sh RA (Go.unsupported u) ρ S := .of_sr fun _ _ => sr_unsup h
/-! == of addresses -/
theorem frozen_run (P : Program) (a : Addr) {f : Bool → Sem α} (w : World) (es : Array Event) : (Go.frozen a >>= f).runT P w es = (f (w.frozen? a)).runT P w es := rfl
theorem shape_run (P : Program) (r : Nat) {f : Option (TypeId × Nat) → Sem α} (w : World) (es : Array Event) : (Go.shape r >>= f).runT P w es = (f (w.shape? r)).runT P w es := rfl
def strq (w : World) (a : Addr) : Bool := w.frozen? a || match w.shape? a.block with | some (_, n) => w.frozen? { block := a.block, off := n } | none => false
def noRow (w : World) (a : Addr) : Bool := w.shape? a.block matches some (_, 0)
theorem stringish_run (P : Program) (a : Addr) {f : Bool → Sem α} (w : World) (es : Array Event) : (stringish a >>= f).runT P w es = (f (strq w a)).runT P w es := by
 unfold stringish strq
 rw [bind_assoc, frozen_run]
 cases hf : w.frozen? a with
 | true => rfl
 | false =>
   simp only [Bool.false_eq_true, if_false, Bool.false_or, bind_assoc]
   rw [shape_run]
   cases w.shape? a.block with
   | none => rfl
   | some p => rfl
theorem mayBeOne_run (P : Program) (a b : Addr) {f : Bool → Sem α} (w : World) (es : Array Event) : (mayBeOne a b >>= f).runT P w es = (f ((strq w a && strq w b) || (strq w a && noRow w a) || (strq w b && noRow w b))).runT P w es := by
 unfold mayBeOne
 simp only [bind_assoc, pure_bind]
 rw [stringish_run, stringish_run, shape_run, shape_run]
 rfl
theorem noView_run {M : Nat → Prop} {w W : World} (hr : HR P ok Zo Sh ρ M w W) {a A : Addr} (ha : AR ρ a A) : ∃ ev EV : Array Event, (∀ {γ : Type} (f : Unit → Sem γ) es, (noView a >>= f).runT P w es = (f ()).runT P w (es ++ ev)) ∧
   (∀ {γ : Type} (f : Unit → Sem γ) ES, (noView A >>= f).runT P W ES = (f ()).runT P W (ES ++ EV)) ∧ ∀ e ∈ EV, EvOk Sh M e := by
 obtain ⟨B, hB, rfl⟩ := ha
 obtain ⟨o, O, ho, hO, hor⟩ := hr.obj _ _ hB
 have hrd := hr.reads hB
 have hcell : ∀ (x : World) (b : Nat) c t f, x.heap[b]? = some (.cells c t f) → ∀ {γ : Type} (a : Addr) (g : Unit → Sem γ) es, a.block = b → (noView a >>= g).runT P x es = (g ()).runT P x (es ++ #[]) := by
   intro x b c t f h γ a g es hb
   subst hb
   unfold noView viewAt
   simp only [bind_assoc]
   rw [shape_run]
   have : x.shape? a.block = some (t, c.size) := by unfold World.shape?; rw [h]
   rw [this]
   simp
 have hfree : ∀ (x : World) (b : Nat) (o : Obj), o.free = true → x.heap[b]? = some o → ∀ {γ : Type} (a : Addr) (g : Unit → Sem γ) es, a.block = b → (noView a >>= g).runT P x es = (g ()).runT P x (es ++ #[(⟨.obj b, false, false⟩ : Event)]) := by
   intro x b o hf h γ a g es hb
   subst hb
   unfold noView viewAt
   simp only [bind_assoc]
   rw [shape_run]
   have : x.shape? a.block = none := by unfold World.shape?; rw [h]; cases o <;> first | rfl | cases hf
   rw [this]
   simp only [Option.isSome_none, Bool.false_eq_true, if_false, bind_assoc]
   show (Sem.getObj a.block _).runT P x es = _
   simp only [Sem.runT, h]
   cases o <;> first | rfl | cases hf
 cases hor with
 | pre t hs hx hfz => exact ⟨#[], #[], fun f es => hcell w _ _ _ _ ho _ f es rfl, fun f ES => hcell W _ _ _ _ hO _ f ES rfl, fun e he => by simp at he⟩
 | cells t hc hf => exact ⟨#[], #[], fun f es => hcell w _ _ _ _ ho _ f es rfl, fun f ES => hcell W _ _ _ _ hO _ f ES rfl, fun e he => by simp at he⟩
 | number l h => exact ⟨_, _, fun f es => hfree w _ _ rfl ho _ f es rfl, fun f ES => hfree W _ _ rfl hO _ f ES rfl, fun e he => by
     obtain rfl : e = _ := (by simpa using he)
     exact ⟨rfl, by rw [if_neg (by simp)]; exact hrd⟩⟩
 | map l h => exact ⟨_, _, fun f es => hfree w _ _ rfl ho _ f es rfl, fun f ES => hfree W _ _ rfl hO _ f ES rfl, fun e he => by
     obtain rfl : e = _ := (by simpa using he)
     exact ⟨rfl, by rw [if_neg (by simp)]; exact hrd⟩⟩
 | iterNil => exact ⟨_, _, fun f es => hfree w _ _ rfl ho _ f es rfl, fun f ES => hfree W _ _ rfl hO _ f ES rfl, fun e he => by
     obtain rfl : e = _ := (by simpa using he)
     exact ⟨rfl, by rw [if_neg (by simp)]; exact hrd⟩⟩
 | iter _ _ _ h => exact ⟨_, _, fun f es => hfree w _ _ rfl ho _ f es rfl, fun f ES => hfree W _ _ rfl hO _ f ES rfl, fun e he => by
     obtain rfl : e = _ := (by simpa using he)
     exact ⟨rfl, by rw [if_neg (by simp)]; exact hrd⟩⟩
theorem frozen_le {M : Nat → Prop} {w W : World} (hr : HR P ok Zo Sh ρ M w W) (hz : Zo.eq = true) {b B : Nat} (hB : ρ b B) (n : Nat) (s : Option Nat) (h : W.frozen? ⟨B, n, s⟩ = true) : w.frozen? ⟨b, n, s⟩ = true := by
 obtain ⟨o, O, ho, hO, hor⟩ := hr.obj _ _ hB
 unfold World.frozen? at *
 simp only [hO] at h
 simp only [ho]
 cases hor with
 | @cells c C t f F hc hf =>
   simp only at h ⊢
   have := hr.tight b B hB (.inl hz) C t F hO
   subst this
   simp at h
 | @pre c C t f F hs hx hfz =>
   have := hr.tight b B hB (.inl hz) C t F hO
   subst this
   simp at h
 | number | map | iterNil | iter => cases h
theorem frozen_new {M : Nat → Prop} {w W : World} (hr : HR P ok Zo Sh ρ M w W) (hz : Zo.eq = true) {b B : Nat} (hB : ρ b B) {n : Nat} {s : Option Nat} (h : w.frozen? ⟨b, n, s⟩ = true) : Zo.is b ∧ ∃ c t f, w.heap[b]? = some (.cells c t f) ∧ n < c.size := by
 obtain ⟨o, O, ho, hO, hor⟩ := hr.obj _ _ hB
 rcases Classical.em (Zo.is b) with q | q
 · obtain ⟨c, t, hc⟩ := hr.froz _ _ hB q
   refine ⟨q, c, t, _, hc, ?_⟩
   unfold World.frozen? at h
   simp only [hc] at h
   simpa using h
 · exfalso
   unfold World.frozen? at h
   simp only [ho] at h
   cases hor with
   | @cells c C t f F hc hf =>
     have := hr.thaw b B hB q c t f ho
     subst this
     simp at h
   | @pre c C t f F hs hx hfz =>
     have := hr.thaw b B hB q c t f ho
     subst this
     simp at h
   | number | map | iterNil | iter => cases h
theorem strq_at {M : Nat → Prop} {w W : World} (hr : HR P ok Zo Sh ρ M w W) (hz : Zo.eq = true) {a A : Addr} (ha : AR ρ a A) : strq w a = w.frozen? a := by
 obtain ⟨B, hB, rfl⟩ := ha
 unfold strq
 cases hf : w.frozen? a with
 | true => rfl
 | false =>
   simp only [Bool.false_or]
   cases hs : w.shape? a.block with
   | none => rfl
   | some p =>
     obtain ⟨t, n⟩ := p
     simp only
     cases hq : w.frozen? { block := a.block, off := n } with
     | false => rfl
     | true =>
       exfalso
       obtain ⟨-, c, t', f, hc, hlt⟩ := frozen_new hr hz hB hq
       unfold World.shape? at hs
       rw [hc] at hs
       cases hs
       omega
theorem norow_at {M : Nat → Prop} {w W : World} (hr : HR P ok Zo Sh ρ M w W) (hz : Zo.eq = true) {a A : Addr} (ha : AR ρ a A) (h : w.frozen? a = true) : noRow w a = false := by
 obtain ⟨B, hB, rfl⟩ := ha
 obtain ⟨-, c, t, f, hc, hlt⟩ := frozen_new hr hz hB (n := a.off) (s := a.spot) h
 unfold noRow World.shape?
 rw [hc]
 obtain ⟨m, hm⟩ : ∃ m, c.size = m + 1 := ⟨c.size - 1, by omega⟩
 simp [hm]
theorem may_at {M : Nat → Prop} {w W : World} (hr : HR P ok Zo Sh ρ M w W) (hz : Zo.eq = true) {a A b B : Addr} (ha : AR ρ a A) (hb : AR ρ b B) (hno : (w.frozen? a && w.frozen? b) = false) :
   ((strq w a && strq w b) || (strq w a && noRow w a) || (strq w b && noRow w b)) = false ∧ ((strq W A && strq W B) || (strq W A && noRow W A) || (strq W B && noRow W B)) = false ∧ (W.frozen? A && W.frozen? B) = false := by
 have sub : ∀ {x X : Addr}, AR ρ x X → W.frozen? X = true → w.frozen? x = true := fun {x X} hx h => by
   obtain ⟨Y, hY, rfl⟩ := hx
   exact frozen_le hr hz hY _ _ h
 have subs : ∀ {x X : Addr}, AR ρ x X → strq W X = true → w.frozen? x = true := fun {x X} hx h => by
   rw [← strq_at hr hz hx]
   obtain ⟨Y, hY, rfl⟩ := hx
   unfold strq at h ⊢
   rcases (Bool.or_eq_true _ _).mp h with h | h
   · rw [frozen_le hr hz hY _ _ h]; rfl
   · rcases hr.shape hY with hsh | ⟨t0, n0, N0, h0, hsh, hle⟩
     · rw [← hsh] at h
       cases hs : w.shape? x.block with
       | none => rw [hs] at h; cases h
       | some p => rw [hs] at h; simp only at h ⊢; rw [frozen_le hr hz hY _ _ h]; simp
     · exfalso
       rw [hsh] at h
       have hq := frozen_le hr hz hY _ _ h
       obtain ⟨-, c, t', f, hc, hlt⟩ := frozen_new hr hz hY hq
       unfold World.shape? at h0
       rw [hc] at h0
       simp only [Option.some.injEq, Prod.mk.injEq] at h0
       omega
 have row : ∀ {x X : Addr}, AR ρ x X → w.frozen? x = true → noRow W X = noRow w x := fun {x X} hx hfx => by
   obtain ⟨Y, hY, rfl⟩ := hx
   obtain ⟨-, c, t', f, hc, hlt⟩ := frozen_new hr hz hY (n := x.off) (s := x.spot) hfx
   unfold noRow
   rcases hr.shape hY with hsh | ⟨t0, n0, N0, h0, hsh, hle⟩
   · rw [← hsh]
   · rw [h0, hsh]
     unfold World.shape? at h0
     rw [hc] at h0
     simp only [Option.some.injEq, Prod.mk.injEq] at h0
     obtain ⟨n1, rfl⟩ : ∃ n1, n0 = n1 + 1 := ⟨n0 - 1, by omega⟩
     obtain ⟨n2, rfl⟩ : ∃ n2, N0 = n2 + 1 := ⟨N0 - 1, by omega⟩
     rfl
 have h1 : ∀ {x X : Addr}, AR ρ x X → (strq w x && noRow w x) = false := fun {x X} hx => by
   rw [strq_at hr hz hx]
   cases hf : w.frozen? x with
   | false => rfl
   | true => rw [norow_at hr hz hx hf]; rfl
 have h2 : ∀ {x X : Addr}, AR ρ x X → (strq W X && noRow W X) = false := fun {x X} hx => by
   cases hf : strq W X with
   | false => rfl
   | true => rw [row hx (subs hx hf), norow_at hr hz hx (subs hx hf)]; rfl
 refine ⟨?_, ?_, ?_⟩
 · rw [h1 ha, h1 hb, strq_at hr hz ha, strq_at hr hz hb, hno]; rfl
 · rw [h2 ha, h2 hb]
   cases hA : strq W A with
   | false => rfl
   | true =>
     cases hB : strq W B with
     | false => rfl
     | true => rw [subs ha hA, subs hb hB] at hno; cases hno
 · cases hA : W.frozen? A with
   | false => rfl
   | true =>
     cases hB : W.frozen? B with
     | false => rfl
     | true => rw [sub ha hA, sub hb hB] at hno; cases hno
theorem ar_block (hg : Ext P ρ ρ) {a A b B : Addr} (ha : AR ρ a A) (hb : AR ρ b B) : (A.block == B.block) = (a.block == b.block) ∧ (A == B) = (a == b) := by
 obtain ⟨X, hX, rfl⟩ := ha
 obtain ⟨Y, hY, rfl⟩ := hb
 have e : X = Y ↔ a.block = b.block := ⟨fun q => hg.inj _ _ _ hX (q ▸ hY), fun q => hg.fn _ _ _ hX (q ▸ hY)⟩
 refine ⟨?_, ?_⟩
 · rw [Bool.eq_iff_iff]; simp only [beq_iff_eq]; exact e
 · rw [Bool.eq_iff_iff]
   simp only [beq_iff_eq]
   obtain ⟨ab, ao, asv⟩ := a
   obtain ⟨bb, bo, bs⟩ := b
   simp only [Addr.mk.injEq]
   exact ⟨fun ⟨q, r⟩ => ⟨e.1 q, r⟩, fun ⟨q, r⟩ => ⟨e.2 q, r⟩⟩
theorem st_sameAddr (hz : Zo.eq = true) {a A b B : Addr} (ha : AR ρ a A) (hb : AR ρ b B) : ST P ok Zo Sh EqR (sameAddr a b) ρ (sameAddr A B) := by
 intro ρ' M w W es ES he hr ht
 have ha := ha.ext he.le
 have hb := hb.ext he.le
 obtain ⟨e1, e2⟩ := ar_block hr.ext ha hb
 by_cases hq : (a.block == b.block) = true
 · have k1 : sameAddr a b = (pure (a == b) : Sem Bool) := by unfold sameAddr; rw [if_pos hq]
   have k2 : sameAddr A B = (pure (a == b) : Sem Bool) := by unfold sameAddr; rw [if_pos (by rw [e1]; exact hq), e2]
   rw [k1, k2]
   rw [k2] at ht
   exact (ST.pure (P := P) (ok := ok) (Zo := Zo) (Sh := Sh) (ρ := ρ')) ρ' M w W es ES hr.ext hr ht
 · have k1 : ∀ x y : Addr, ¬ (x.block == y.block) = true → sameAddr x y = (do
       if (← Go.frozen x) && (← Go.frozen y) then Go.unsupported .addressObserved
       noView x
       noView y
       if ← mayBeOne x y then return (← choose (.extern "sameAddr.stringBytes" 2)) == 1
       pure false : Sem Bool) := fun x y h => by unfold sameAddr; rw [if_neg h]
   rw [k1 a b hq, k1 A B (by rw [e1]; exact hq)]
   cases hno : (w.frozen? a && w.frozen? b) with
   | true =>
     left
     rw [frozen_run, frozen_run]
     simp only [hno, if_true]
     exact ⟨_, w, rfl, rfl⟩
   | false =>
     obtain ⟨m1, m2, m3⟩ := may_at hr hz ha hb hno
     obtain ⟨ev1, EV1, v1, V1, x1⟩ := noView_run hr ha
     obtain ⟨ev2, EV2, v2, V2, x2⟩ := noView_run hr hb
     right
     refine ⟨false, false, w, W, ρ', M, es ++ ev1 ++ ev2, EV1 ++ EV2, ?_, ?_, rfl, hr.ext, hr, Moves.refl _ _, rfl, rfl, Nat.le_refl _, fun e he => ?_⟩
     · rw [frozen_run, frozen_run]
       simp only [hno, Bool.false_eq_true, if_false]
       rw [v1, v2, mayBeOne_run]
       rw [m1]
       rfl
     · rw [frozen_run, frozen_run]
       simp only [m3, Bool.false_eq_true, if_false]
       rw [V1, V2, mayBeOne_run]
       rw [m2, ← Array.append_assoc]
       rfl
     · rcases Array.mem_append.1 he with q | q
       · exact x1 e q
       · exact x2 e q
theorem st_forIn {σ : Type} {g K : α → σ → Sem (ForInStep σ)} (h : ∀ (x : α) (b : σ), ST P ok Zo Sh EqR (g x b) ρ (K x b)) : ∀ (l : List α) (b : σ), ST P ok Zo Sh EqR (forIn l b g) ρ (forIn l b K)
 | [], b => by simpa using ST.pure
 | x :: l, b => by
   rw [List.forIn_cons, List.forIn_cons]
   refine (h x b).bind fun r r' ρ' e hr => ?_
   cases hr
   cases r with
   | done c => exact ST.pure
   | yield c => exact (st_forIn h l c).ext e
theorem st_part {x X : Array Value} (t : TypeId) (hx : VRs ok ρ x X) (n : Nat) {f F : Value → Sem β} {RB : Rho → β → β → Prop} (h : ∀ v V ρ', Ext P ρ ρ' → VR ok ρ' v V → ST P ok Zo Sh RB (f v) ρ' (F V)) : ST P ok Zo Sh RB (part t x n >>= f) ρ (part t X n >>= F) :=
 ST.bind (RA := VR ok) (.of_sr fun ρ' e => sr_of_bind (srb_part t (hx.ext e.le) n fun v V hv => sr_pure hv)) fun v V ρ' e hv => h v V ρ' e hv
theorem st_underlying (t : TypeId) {f F : TypeDesc → Sem β} {RB : Rho → β → β → Prop} (h : ∀ d, P.underlying t = some d → ST P ok Zo Sh RB (f d) ρ (F d)) : ST P ok Zo Sh RB (underlying t >>= f) ρ (underlying t >>= F) := by
 have : ST P ok Zo Sh (fun _ a b => a = b ∧ P.underlying t = some a) (underlying t) ρ (underlying t) := .of_sr fun ρ' _ => sr_of_bind (srb_underlying fun d hd => sr_pure ⟨rfl, hd⟩)
 exact this.bind fun a b ρ' e ⟨q, hd⟩ => by subst q; exact (h a hd).ext e
theorem st_typeInfo (t : TypeId) {f F : TypeInfo → Sem β} {RB : Rho → β → β → Prop} (h : ∀ i, P.info? t = some i → ST P ok Zo Sh RB (f i) ρ (F i)) : ST P ok Zo Sh RB (typeInfo t >>= f) ρ (typeInfo t >>= F) := by
 have : ST P ok Zo Sh (fun _ a b => a = b ∧ P.info? t = some a) (typeInfo t) ρ (typeInfo t) := .of_sr fun ρ' _ => sr_of_bind (srb_typeInfo fun d hd => sr_pure ⟨rfl, hd⟩)
 exact this.bind fun a b ρ' e ⟨q, hd⟩ => by subst q; exact (h a hd).ext e
theorem st_program {f F : Program → Sem β} {RB : Rho → β → β → Prop} (h : ST P ok Zo Sh RB (f P) ρ (F P)) : ST P ok Zo Sh RB (program >>= f) ρ (program >>= F) := by
 have : ST P ok Zo Sh (fun _ a b => a = P ∧ b = P) (program : Sem Program) ρ program := .of_sr fun ρ' _ => sr_of_bind (srb_program (sr_pure ⟨rfl, rfl⟩))
 exact this.bind fun a b ρ' e ⟨q, q'⟩ => by subst q; subst q'; exact h.ext e
theorem st_sizeOf (t : TypeId) {f F : Nat → Sem β} {RB : Rho → β → β → Prop} (h : ∀ n, ST P ok Zo Sh RB (f n) ρ (F n)) : ST P ok Zo Sh RB (sizeOf t >>= f) ρ (sizeOf t >>= F) := by
 have : ST P ok Zo Sh EqR (sizeOf t) ρ (sizeOf t) := .of_sr fun ρ' _ => sr_of_bind (srb_sizeOf fun n => sr_pure rfl)
 exact this.bind fun a b ρ' e q => by cases q; exact (h a).ext e
theorem st_choose (q : Question) {f F : Nat → Sem β} {RB : Rho → β → β → Prop} (h : ∀ n, ST P ok Zo Sh RB (f n) ρ (F n)) : ST P ok Zo Sh RB (choose q >>= f) ρ (choose q >>= F) := by
 have : ST P ok Zo Sh EqR (choose q) ρ (choose q) := .of_sr fun ρ' _ => sr_of_bind (srb_choose fun n => sr_pure rfl)
 exact this.bind fun a b ρ' e q => by cases q; exact (h a).ext e
theorem st_behind {a A : Addr} (ha : AR ρ a A) {f F : Addr × Bool → Sem β} {RB : Rho → β → β → Prop} (h : ∀ x X l ρ', Ext P ρ ρ' → AR ρ' x X → ST P ok Zo Sh RB (f (x, l)) ρ' (F (X, l))) : ST P ok Zo Sh RB (behindNumber a >>= f) ρ (behindNumber A >>= F) := by
 have : ST P ok Zo Sh (fun ρ' x X => AR ρ' x.1 X.1 ∧ x.2 = X.2) (behindNumber a) ρ (behindNumber A) := .of_sr fun ρ' e => sr_of_bind (srb_behind (ha.ext e.le) fun x X l hx => sr_pure ⟨hx, rfl⟩)
 exact this.bind fun x X ρ' e ⟨q, q'⟩ => by
   obtain ⟨x, l⟩ := x
   obtain ⟨X, l'⟩ := X
   cases q'
   exact h x X l ρ' e q
theorem st_uncomparable (t : TypeId) : ST P ok Zo Sh (EqR (α := Bool)) (do
   if (← program).holdsPacked (← program).depth t then unsupported (.noEntry "binop/eql.a type that holds a type that a stand-in pack declares, and that cannot be compared by the pack's declaration")
   runtimePanic (.error ("comparing uncomparable type " ++ (← typeStr t)))) ρ (do
   if (← program).holdsPacked (← program).depth t then unsupported (.noEntry "binop/eql.a type that holds a type that a stand-in pack declares, and that cannot be compared by the pack's declaration")
   runtimePanic (.error ("comparing uncomparable type " ++ (← typeStr t)))) := by
 refine .of_sr fun ρ' _ => srb_program (srb_program ?_)
 have rest : SR P ok (EqR (α := Bool)) (typeStr t >>= fun s => runtimePanic (.error ("comparing uncomparable type " ++ s))) ρ' (typeStr t >>= fun s => runtimePanic (.error ("comparing uncomparable type " ++ s))) := srb_typeStr t fun s => sr_rtPanic rfl
 cases P.holdsPacked P.depth t with
 | true => exact srb_unsup
 | false => exact rest
end
end Go.Proofs.YtajnfkmkombajabDoor
namespace Go.Proofs.YtajnfkmkombajabDoor
open Go
section
variable {P : Program} {ok : Fn → Prop} {Zo : Olds} {Sh : Nat → Prop}
set_option maxHeartbeats 4000000 in
theorem st_equalInt {t : TypeId} {kd : IntKind} (ht : P.underlying t = some (.int kd)) (d : Nat) (ρ : Rho) (x X y Y : Value) (hg : Ext P ρ ρ) (hx : VR ok ρ x X) (hy : VR ok ρ y Y) : ST P ok Zo Sh EqR (Op.equalIn (d + 1) t x y) ρ (Op.equalIn (d + 1) t X Y) := by
   unfold Op.equalIn
   refine st_underlying t fun desc hd => ?_
   rw [ht] at hd
   cases hd
   cases hx <;> cases hy <;> first | exact ST.pure | exact ST.stuck | exact ST.unsup | skip
   · rename_i k n k' n'
     show ST P ok Zo Sh EqR (if k = k' then pure (n == n') else stuck "==: kinds differ" : Sem Bool) ρ (if k = k' then pure (n == n') else stuck "==: kinds differ" : Sem Bool)
     split
     · exact ST.pure
     · exact ST.stuck
   · rename_i k n a A ha
     cases n with
     | ofNat m => cases m with
       | zero => exact ST.pure
       | succ m => exact ST.unsup
     | negSucc m => exact ST.unsup
   · rename_i a A ha k n
     cases n with
     | ofNat m => cases m with
       | zero => exact ST.pure
       | succ m => exact ST.unsup
     | negSucc m => exact ST.unsup
   · rename_i a A ha b B hb
     have fin : ∀ (a A b B : Addr) (ρ : Rho), Ext P ρ ρ → AR ρ a A → AR ρ b B → ST P ok Zo Sh EqR (do
         if a.block == b.block && a.block < (← program).globals.size then return (← byteOf a) == (← byteOf b)
         let .named "sync.copyChecker" _ := (← typeInfo t).desc | unsupported .addressObserved
         if a == b then pure true else unsupported .addressObserved : Sem Bool) ρ (do
         if A.block == B.block && A.block < (← program).globals.size then return (← byteOf A) == (← byteOf B)
         let .named "sync.copyChecker" _ := (← typeInfo t).desc | unsupported .addressObserved
         if A == B then pure true else unsupported .addressObserved : Sem Bool) := by
       intro a A b B ρ hg ha hb
       refine st_program ?_
       obtain ⟨e1, e2⟩ := ar_block hg ha hb
       have e3 : decide (A.block < P.globals.size) = decide (a.block < P.globals.size) := by
         obtain ⟨X, hX, rfl⟩ := ha
         exact decide_eq_decide.2 (hg.glob _ _ hX).symm
       rw [e1, e2, e3]
       cases a.block == b.block && decide (a.block < P.globals.size) with
       | true =>
         refine .of_sr fun ρ' e => ?_
         exact srb_byteOf (ha.ext e.le) fun n => srb_byteOf (hb.ext e.le) fun m => sr_pure rfl
       | false =>
         refine st_typeInfo t fun i _ => ?_
         split
         · cases a == b with
           | true => exact ST.pure
           | false => exact ST.unsup
         · exact ST.unsup
     exact st_behind ha fun a' A' l ρ' e ha' => st_behind (hb.ext e.le) fun b' B' l' ρ2 e2 hb' => fin _ _ _ _ ρ2 e2.refl (ha'.ext e2.le) hb'
set_option maxHeartbeats 4000000 in
theorem st_equalIn (hz : Zo.eq = true) : ∀ (d : Nat) (t : TypeId) (ρ : Rho) (x X y Y : Value), Ext P ρ ρ → VR ok ρ x X → VR ok ρ y Y → ST P ok Zo Sh EqR (Op.equalIn d t x y) ρ (Op.equalIn d t X Y)
 | 0, t, ρ, x, X, y, Y, hg, hx, hy => ST.unsup
 | d + 1, t, ρ, x, X, y, Y, hg, hx, hy => by
   have ih := st_equalIn hz d
   unfold Op.equalIn
   refine st_underlying t fun desc hd => ?_
   clear hd
   cases hx <;> cases hy <;> cases desc <;> first | exact ST.pure | exact ST.stuck | exact ST.unsup | skip
   · rename_i k n k' n' kd
     show ST P ok Zo Sh EqR (if k = k' then pure (n == n') else stuck "==: kinds differ" : Sem Bool) ρ (if k = k' then pure (n == n') else stuck "==: kinds differ" : Sem Bool)
     split
     · exact ST.pure
     · exact ST.stuck
   · rename_i k n a A ha kd
     cases n with
     | ofNat m => cases m with
       | zero => exact ST.pure
       | succ m => exact ST.unsup
     | negSucc m => exact ST.unsup
   · rename_i a A ha k n kd
     cases n with
     | ofNat m => cases m with
       | zero => exact ST.pure
       | succ m => exact ST.unsup
     | negSucc m => exact ST.unsup
   · rename_i a A ha b B hb kd
     have fin : ∀ (a A b B : Addr) (ρ : Rho), Ext P ρ ρ → AR ρ a A → AR ρ b B → ST P ok Zo Sh EqR (do
         if a.block == b.block && a.block < (← program).globals.size then return (← byteOf a) == (← byteOf b)
         let .named "sync.copyChecker" _ := (← typeInfo t).desc | unsupported .addressObserved
         if a == b then pure true else unsupported .addressObserved : Sem Bool) ρ (do
         if A.block == B.block && A.block < (← program).globals.size then return (← byteOf A) == (← byteOf B)
         let .named "sync.copyChecker" _ := (← typeInfo t).desc | unsupported .addressObserved
         if A == B then pure true else unsupported .addressObserved : Sem Bool) := by
       intro a A b B ρ hg ha hb
       refine st_program ?_
       obtain ⟨e1, e2⟩ := ar_block hg ha hb
       have e3 : decide (A.block < P.globals.size) = decide (a.block < P.globals.size) := by
         obtain ⟨X, hX, rfl⟩ := ha
         exact decide_eq_decide.2 (hg.glob _ _ hX).symm
       rw [e1, e2, e3]
       cases a.block == b.block && decide (a.block < P.globals.size) with
       | true =>
         refine .of_sr fun ρ' e => ?_
         exact srb_byteOf (ha.ext e.le) fun n => srb_byteOf (hb.ext e.le) fun m => sr_pure rfl
       | false =>
         refine st_typeInfo t fun i _ => ?_
         split
         · cases a == b with
           | true => exact ST.pure
           | false => exact ST.unsup
         · exact ST.unsup
     exact st_behind ha fun a' A' l ρ' e ha' => st_behind (hb.ext e.le) fun b' B' l' ρ2 e2 hb' => fin _ _ _ _ ρ2 e2.refl (ha'.ext e2.le) hb'
   · rename_i a A ha b B hb
     exact st_sameAddr hz ha hb
   · rename_i a A ha b B hb el
     refine st_sizeOf el fun n => ?_
     by_cases h0 : n = 0
     · obtain ⟨-, e2⟩ := ar_block hg ha hb
       simp only [h0, ne_eq, not_true_eq_false, if_false]
       rw [e2]
       cases a == b with
       | true => exact ST.pure
       | false => exact st_choose _ fun m => ST.pure
     · simp only [h0, ne_eq, not_false_eq_true, if_true]
       exact st_sameAddr hz ha hb
   · rename_i v V u hv v' V' u' hv' ms
     by_cases he : u = u'
     · subst he
       simp only [ne_eq, not_true_eq_false, if_false]
       refine st_typeInfo u fun i _ => ?_
       cases i.comparable with
       | true => exact ih u ρ _ _ _ _ hg hv hv'
       | false => exact st_uncomparable u
     · simp only [ne_eq, he, not_false_eq_true, if_true]
       exact ST.pure
   · rename_i x X hs hx y Y hs' hy len el
     have hX : VRs ok ρ x X := ⟨hs, hx⟩
     have hY : VRs ok ρ y Y := ⟨hs', hy⟩
     refine st_sizeOf el fun n => ?_
     simp only
     rw [Std.Legacy.Range.forIn_eq_forIn_range', Std.Legacy.Range.forIn_eq_forIn_range']
     refine (st_forIn (fun i b => ?_) _ _).bind fun r r' ρ' e hr => ?_
     · refine st_part el hX _ fun v V ρ1 e1 hv => st_part el (hY.ext e1.le) _ fun u U ρ2 e2 hu => ?_
       refine (ih el ρ2 _ _ _ _ e2.refl (hv.ext e2.le) hu).bind fun c c' ρ3 e3 hc => ?_
       cases hc
       cases c <;> exact ST.pure
     · cases hr
       split <;> exact ST.pure
   · rename_i x X hs hx y Y hs' hy fs
     have hX : VRs ok ρ x X := ⟨hs, hx⟩
     have hY : VRs ok ρ y Y := ⟨hs', hy⟩
     refine st_program ?_
     simp only
     cases P.stoodInHeld t with
     | true => exact .of_sr fun ρ' _ => srb_unsup
     | false =>
       simp only [Bool.false_eq_true, if_false]
       rw [← Array.forIn_toList, ← Array.forIn_toList]
       refine (st_forIn (fun f b => ?_) _ _).bind fun r r' ρ' e hr => ?_
       · split
         · refine st_part f.type hX _ fun v V ρ1 e1 hv => st_part f.type (hY.ext e1.le) _ fun u U ρ2 e2 hu => ?_
           refine (ih f.type ρ2 _ _ _ _ e2.refl (hv.ext e2.le) hu).bind fun c c' ρ3 e3 hc => ?_
           cases hc
           cases c <;> exact ST.pure
         · exact ST.pure
       · cases hr
         split <;> exact ST.pure
end
end Go.Proofs.YtajnfkmkombajabDoor
