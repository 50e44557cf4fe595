/-
  Types that are made: their zero values are alike, of their size; they have no methods. No program in sight.
  Programs of effects that are alike: an operation of a white list.
  One step of a goroutine in company, and of its like alone.
-/
import Derived.Test.YtajnfkmkombajabDoorQSD04
set_option linter.unusedVariables false
set_option linter.unusedSimpArgs false
namespace Go.Proofs.YtajnfkmkombajabDoor
open Go
section
variable {info : TypeId → Option TypeInfo} {d : TypeDesc} {i : TypeInfo}
theorem made_methods (h : Made.reckon info d = some i) : i.methods = #[] := by
 unfold Made.reckon at h
 cases d with
 | pointer e =>
   simp only [Option.bind_eq_bind, Option.bind_eq_some_iff] at h
   obtain ⟨j, -, h⟩ := h
   split at h
   · cases h
   · split at h
     · cases h
     · obtain ⟨s, -, h⟩ := Option.bind_eq_some_iff.1 h
       cases h; rfl
   · obtain ⟨s, -, h⟩ := Option.bind_eq_some_iff.1 h
     cases h; rfl
 | slice e =>
   simp only [Option.bind_eq_bind, Option.bind_eq_some_iff] at h
   obtain ⟨j, -, s, -, h⟩ := h
   cases h; rfl
 | map k e =>
   simp only [Option.bind_eq_bind, Option.bind_eq_some_iff] at h
   obtain ⟨j, -, s, -, j2, -, s2, -, h⟩ := h
   cases h; rfl
 | chan k e =>
   simp only [Option.bind_eq_bind, Option.bind_eq_some_iff] at h
   obtain ⟨j, -, s, -, h⟩ := h
   cases h; rfl
 | func k e v =>
   simp only [Option.bind_eq_bind, Option.bind_eq_some_iff] at h
   obtain ⟨j, -, h⟩ := h
   cases h; rfl
 | array k e =>
   simp only [Option.bind_eq_bind, Option.bind_eq_some_iff] at h
   obtain ⟨j, -, s, -, h⟩ := h
   cases h; rfl
 | struct fs =>
   unfold Made.reckonStruct at h
   simp only [Option.bind_eq_bind, Option.bind_eq_some_iff] at h
   obtain ⟨a, -, h⟩ := h
   split at h <;> (cases h; rfl)
 | _ => cases h
def ZGood (i : TypeInfo) : Prop := ∀ v, i.zero = some v → (∀ ok ρ, VR ok ρ v v) ∧ v.cells.size = i.size
theorem word_good {d : TypeDesc} {s : String} {z : Value} {c : Bool} {n : Nat} (hz : ∀ ok ρ, VR ok ρ z z) (hc : z.cells.size = 1) : ZGood (Made.word d s z c n) := fun v hv => by cases hv; exact ⟨hz, hc⟩
theorem self_cells {v : Value} (h : ∀ ok ρ, VR ok ρ v v) (ok : Fn → Prop) (ρ : Rho) : VRs ok ρ v.cells v.cells := (h ok ρ).cells
theorem flat_good {z : Array Value} (h : ∀ ok ρ, VRs ok ρ z z) (n : Nat) : (∀ ok ρ, VRs ok ρ (Array.replicate n z).flatten (Array.replicate n z).flatten) ∧ (Array.replicate n z).flatten.size = n * z.size := by
 induction n with
 | zero => exact ⟨fun ok ρ => by simpa using VRs.empty, by simp⟩
 | succ n ih =>
   rw [Array.replicate_succ, Array.flatten_push]
   refine ⟨fun ok ρ => (ih.1 ok ρ).append (h ok ρ), ?_⟩
   rw [Array.size_append, ih.2, Nat.succ_mul]
theorem struct_loop {β : Type} (f : Field → β → Option (ForInStep β)) (I : β → Prop) (hf : ∀ x b r, I b → f x b = some r → ∃ b', r = .yield b' ∧ I b') : ∀ (l : List Field) (b c : β), I b → forIn l b f = some c → I c
 | [], b, c, hb, h => by
   simp only [List.forIn_nil] at h
   cases h; exact hb
 | x :: l, b, c, hb, h => by
   rw [List.forIn_cons] at h
   cases hr : f x b with
   | none => rw [hr] at h; cases h
   | some r =>
     rw [hr] at h
     obtain ⟨b', rfl, hb'⟩ := hf x b r hb hr
     exact struct_loop f I hf l b' c hb' h
theorem made_zero (hI : ∀ t j, info t = some j → ZGood j) (h : Made.reckon info d = some i) : ZGood i := by
 unfold Made.reckon at h
 cases d with
 | pointer e =>
   simp only [Option.bind_eq_bind, Option.bind_eq_some_iff] at h
   obtain ⟨j, -, h⟩ := h
   split at h
   · cases h
   · split at h
     · cases h
     · obtain ⟨s, -, h⟩ := Option.bind_eq_some_iff.1 h
       cases h; exact word_good (fun _ _ => .pnil) rfl
   · obtain ⟨s, -, h⟩ := Option.bind_eq_some_iff.1 h
     cases h; exact word_good (fun _ _ => .pnil) rfl
 | slice e =>
   simp only [Option.bind_eq_bind, Option.bind_eq_some_iff] at h
   obtain ⟨j, -, s, -, h⟩ := h
   cases h; exact word_good (fun _ _ => .snil _ _) rfl
 | map k e =>
   simp only [Option.bind_eq_bind, Option.bind_eq_some_iff] at h
   obtain ⟨j, -, s, -, j2, -, s2, -, h⟩ := h
   cases h; exact word_good (fun _ _ => .mnil) rfl
 | chan k e =>
   simp only [Option.bind_eq_bind, Option.bind_eq_some_iff] at h
   obtain ⟨j, -, s, -, h⟩ := h
   cases h; exact word_good (fun _ _ => .cnil) rfl
 | func k e v =>
   simp only [Option.bind_eq_bind, Option.bind_eq_some_iff] at h
   obtain ⟨j, -, h⟩ := h
   cases h; exact word_good (fun _ _ => .nilFunc) rfl
 | array k e =>
   simp only [Option.bind_eq_bind, Option.bind_eq_some_iff] at h
   obtain ⟨j, hj, s, -, h⟩ := h
   cases h
   intro v hv
   simp only at hv
   have hjz := hI _ _ hj
   split at hv
   · cases hv
   · split at hv
     · next h0 =>
       cases hv
       exact ⟨fun ok ρ => .agg' VRs.empty, by simp only [Value.cells, h0]; rfl⟩
     · cases hz : j.zero with
       | none => rw [hz] at hv; cases hv
       | some z =>
         rw [hz] at hv
         simp only [Option.map_some, Option.some.injEq] at hv
         obtain ⟨q1, q2⟩ := hjz z hz
         obtain ⟨q3, q4⟩ := flat_good (self_cells q1) k
         subst hv
         exact ⟨fun ok ρ => .agg' (q3 ok ρ), by show (Array.replicate k z.cells).flatten.size = _; rw [q4, q2]⟩
 | struct fs =>
   unfold Made.reckonStruct at h
   simp only [Option.bind_eq_bind, Option.bind_eq_some_iff] at h
   obtain ⟨a, ha, h⟩ := h
   have key : ∀ zs, a.2.2.2.2.2.2.2.1 = some zs → (∀ ok ρ, VRs ok ρ zs zs) ∧ zs.size = a.2.1 := by
     rw [← Array.forIn_toList] at ha
     refine struct_loop _ (fun a => ∀ zs, a.2.2.2.2.2.2.2.1 = some zs → (∀ ok ρ, VRs ok ρ zs zs) ∧ zs.size = a.2.1) ?_ _ _ _ ?_ ha
     · intro x b r hb hr
       simp only [Option.bind_eq_some_iff] at hr
       obtain ⟨j, hj, hr⟩ := hr
       have hjz := hI _ _ hj
       have fin : ∀ zs, (b.2.2.2.2.2.2.2.1.bind fun z0 => j.zero.bind fun z1 => pure (z0 ++ z1.cells)) = some zs → (∀ ok ρ, VRs ok ρ zs zs) ∧ zs.size = b.2.1 + j.size := by
         intro zs hs
         obtain ⟨z0, h0, hs⟩ := Option.bind_eq_some_iff.1 hs
         obtain ⟨z1, h1, hs⟩ := Option.bind_eq_some_iff.1 hs
         cases hs
         obtain ⟨g1, g2⟩ := hb z0 h0
         obtain ⟨g3, g4⟩ := hjz z1 h1
         exact ⟨fun ok ρ => (g1 ok ρ).append (self_cells g3 ok ρ), by rw [Array.size_append, g2, g4]⟩
       repeat' split at hr
       all_goals first
         | (cases hr; done)
         | (cases hr; exact ⟨_, rfl, fin⟩)
         | (cases hr; exact ⟨_, rfl, fun zs hs => by cases hs⟩)
         | (simp only [Option.bind_eq_some_iff] at hr; obtain ⟨_, _, hr⟩ := hr; (repeat' split at hr); all_goals first | (cases hr; exact ⟨_, rfl, fin⟩) | (cases hr; exact ⟨_, rfl, fun zs hs => by cases hs⟩))
     · intro zs hz
       cases hz
       exact ⟨fun ok ρ => VRs.empty, rfl⟩
   have fin : ∀ v, a.2.2.2.2.2.2.2.1.map Value.agg = some v → (∀ ok ρ, VR ok ρ v v) ∧ v.cells.size = a.2.1 := by
     intro v hv
     obtain ⟨zs, hz, rfl⟩ := Option.map_eq_some_iff.1 hv
     obtain ⟨g1, g2⟩ := key zs hz
     exact ⟨fun ok ρ => .agg' (g1 ok ρ), g2⟩
   split at h <;> (cases h; exact fin)
 | _ => cases h
end
def plZ : Value → Bool
 | .bool _ | .int .. | .string _ | .pointer none | .slice none _ _ | .map none | .chan none | .nilFunc | .nilIface => true
 | _ => false
def plZ2 (v : Value) : Bool := plZ v || match v with | .agg x => x.all plZ | _ => false
def plZ3 (v : Value) : Bool := plZ2 v || match v with | .tuple x => x.all plZ2 | _ => false
def zeroListed (i : TypeInfo) : Bool := match i.zero with | some v => plZ3 v && v.cells.size == i.size | none => true
theorem plZ_self {v : Value} (h : plZ v = true) (ok : Fn → Prop) (ρ : Rho) : VR ok ρ v v := by
 cases v with
 | bool => exact .bool _
 | int => exact .int _ _
 | string => exact .string _
 | pointer a => cases a <;> first | exact .pnil | cases h
 | slice a _ _ => cases a <;> first | exact .snil _ _ | cases h
 | map a => cases a <;> first | exact .mnil | cases h
 | chan a => cases a <;> first | exact .cnil | cases h
 | nilFunc => exact .nilFunc
 | nilIface => exact .nilIface
 | _ => cases h
theorem all_self {x : Array Value} {p : Value → Bool} (hp : ∀ v, p v = true → ∀ ok ρ, VR ok ρ v v) (h : x.all p = true) (ok : Fn → Prop) (ρ : Rho) : VRs ok ρ x x := by
 refine ⟨rfl, fun i v V a b => ?_⟩
 rw [a] at b; cases b
 obtain ⟨hi, rfl⟩ := Array.getElem?_eq_some_iff.1 a
 exact hp _ (Array.all_eq_true.1 h i hi) ok ρ
theorem plZ2_self (v : Value) (h : plZ2 v = true) (ok : Fn → Prop) (ρ : Rho) : VR ok ρ v v := by
 unfold plZ2 at h
 rcases (Bool.or_eq_true _ _).mp h with h | h
 · exact plZ_self h ok ρ
 · cases v with
   | agg x => exact .agg' (all_self (fun v hv => plZ_self hv) h ok ρ)
   | _ => cases h
theorem plZ3_self (v : Value) (h : plZ3 v = true) (ok : Fn → Prop) (ρ : Rho) : VR ok ρ v v := by
 unfold plZ3 at h
 rcases (Bool.or_eq_true _ _).mp h with h | h
 · exact plZ2_self v h ok ρ
 · cases v with
   | tuple x => exact .tuple' (all_self plZ2_self h ok ρ)
   | _ => cases h
section
variable {P : Program}
theorem infoAt_good (h : ∀ (t : Nat) (i : TypeInfo), P.types[t]? = some i → ZGood i) : ∀ (n : Nat) (t : TypeId) (i : TypeInfo), Made.infoAt P.toTables n t = some i → ZGood i
 | 0, t, i, hi => by cases hi
 | n + 1, t, i, hi => by
   unfold Made.infoAt at hi
   split at hi
   · exact h t i hi
   · obtain ⟨d, -, hi⟩ := Option.bind_eq_some_iff.1 hi
     exact made_zero (infoAt_good h n) hi
theorem info_good (h : P.types.all zeroListed = true) {t : TypeId} {i : TypeInfo} (hi : P.info? t = some i) : ZGood i := by
 have hT : ∀ (t : Nat) (i : TypeInfo), P.types[t]? = some i → ZGood i := fun t i hi v hv => by
   obtain ⟨hlt, rfl⟩ := Array.getElem?_eq_some_iff.1 hi
   have := Array.all_eq_true.1 h t hlt
   unfold zeroListed at this
   rw [hv] at this
   simp only [Bool.and_eq_true, beq_iff_eq] at this
   exact ⟨fun ok ρ => plZ3_self v this.1 ok ρ, this.2⟩
 unfold Tables.info? at hi
 split at hi
 · exact hT t i hi
 · exact infoAt_good hT _ t i hi
theorem zero_ok (h : P.types.all zeroListed = true) (ok : Fn → Prop) : ZeroOk P ok := fun _ _ _ hi hv ρ => (info_good h hi _ hv).1 ok ρ
theorem size_ok (h : P.types.all zeroListed = true) : SizeOk P := fun _ _ _ hi hv => (info_good h hi _ hv).2
theorem info_meth {t : TypeId} {i : TypeInfo} (hi : P.info? t = some i) : P.types[t]? = some i ∨ i.methods = #[] := by
 unfold Tables.info? at hi
 split at hi
 · exact .inl hi
 · have key : ∀ n, Made.infoAt P.toTables n t = some i → P.types[t]? = some i ∨ i.methods = #[] := fun n h => by
     cases n with
     | zero => cases h
     | succ n =>
       unfold Made.infoAt at h
       split at h
       · exact .inl h
       · obtain ⟨d, -, h⟩ := Option.bind_eq_some_iff.1 h
         exact .inr (made_methods h)
   exact key _ hi
end
end Go.Proofs.YtajnfkmkombajabDoor
namespace Go.Proofs.YtajnfkmkombajabDoor
open Go
def okFn (good : FuncId → Bool) : Fn → Prop
 | .func f => good f = true
 | _ => False
structure Gs where
 gl : Nat → Bool
 eq : Bool
def okOperand (good : FuncId → Bool) (G : Gs) : Operand → Bool
 | .tmp _ => true
 | .const v => simpleV v
 | .global g => G.gl g
 | .func f => good f
def evT (tmps : Array Value) : Operand → Value
 | .tmp t => tmps.getD t undef
 | .const v => v
 | .global g => .pointer (some ⟨g, 0, none⟩)
 | .func f => .func (.func f) #[] #[]
def ifaceT (P : Program) (t : TypeId) : Bool := match P.underlying t with | some (.interface _) => true | _ => false
def partOp : Op → Bool
 | .binOp op _ _ y _ => !(op matches .eql | .neq) || simpleO y
 | _ => true
def isIntT (P : Program) (t : TypeId) : Bool := match P.underlying t with | some (.int _) => true | _ => false
def okBuiltin : Builtin → Bool
 | .append | .len | .cap => true
 | _ => false
def methOk (P : Program) (good : FuncId → Bool) (n : String) : Bool :=
 (List.range P.types.size).all fun t => match P.info? t with
   | none => true
   | some i => i.methods.all fun m => m.name != n || match m.func with
     | some (f, ptr) => good f && (ptr || (m.path.isEmpty && !(P.underlying t matches some (.pointer _))))
     | none => false
def okCallee (P : Program) (good : FuncId → Bool) (G : Gs) : Callee → Bool
 | .value f => okOperand good G f
 | .builtin b => okBuiltin b
 | .invoke r n => okOperand good G r && methOk P good n
def okOp (P : Program) (good : FuncId → Bool) (G : Gs) : Op → Bool
 | .move x | .assign x | .box _ x | .load _ x | .nilCheck x | .unOp _ _ x | .makeInterface _ x | .fieldAddr _ x _ | .field _ x _ | .extract x _ | .panic x => okOperand good G x
 | .pick c a b => okOperand good G c && okOperand good G a && okOperand good G b
 | .alloc _ => true
 | .build _ ps | .buildSlice _ _ ps => ps.all fun p => okOperand good G p.2
 | .store _ a v | .makeSlice _ a v | .indexAddr _ a v => okOperand good G a && okOperand good G v
 | .binOp op t x y _ => okOperand good G x && okOperand good G y && (!(op matches .eql | .neq) || simpleO y || (G.eq && ifaceT P t) || isIntT P t)
 | .convert s d x => isIntT P s && isIntT P d && okOperand good G x
 | .makeFunc fn first captured => (match fn with | .func f => good f | _ => false) && first.all (okOperand good G) && captured.all (okOperand good G)
 | .slice _ x l h m => okOperand good G x && l.all (okOperand good G) && h.all (okOperand good G) && m.all (okOperand good G)
 | .call c => okCallee P good G c.callee && c.args.all (okOperand good G)
 | .typeAssert x _ _ c => c && okOperand good G x
 | _ => false
inductive NR (P : Program) (good : FuncId → Bool) (ρ : Rho) : Next → Next → Prop
 | value {v V : Value} (h : VR (okFn good) ρ v V) : NR P good ρ (.value v) (.value V)
 | skip : NR P good ρ .skip .skip
 | enter (f : FuncId) {x X : Array Value} (hf : good f = true) (hb : ∃ fn b, P.funcs[f]? = some fn ∧ fn.body = some b) (h : VRs (okFn good) ρ x X) : NR P good ρ (.enter f x) (.enter f X)
def Native (P : Program) (good : FuncId → Bool) (G : Gs) (f : FuncId) : Prop :=
 (∃ fn e, P.funcs[f]? = some fn ∧ (fn.name == "runtime.NumGoroutine") = false ∧ fn.body = none ∧ Extern.findNext fn = none ∧ Extern.find fn = some e ∧
   ∀ (ρ : Rho) (x X : Array Value), Ext P ρ ρ → (∀ g, G.gl g = true → ρ g g) → VRs (okFn good) ρ x X → SR P (okFn good) (VR (okFn good)) (e x) ρ (e X)) ∨
   ∃ fn, P.funcs[f]? = some fn ∧ (fn.name == "runtime.NumGoroutine") = false ∧ fn.body = none ∧ Extern.findNext fn = none ∧ Extern.find fn = none ∧ (fn.name.endsWith ".init" && !fn.name.startsWith "(" && !fn.name.startsWith "gosem.") = false
def GoodFns (P : Program) (good : FuncId → Bool) (G : Gs) : Prop := ∀ f, good f = true → (∃ fn b, P.funcs[f]? = some fn ∧ (fn.name == "runtime.NumGoroutine") = false ∧ fn.body = some b) ∨ Native P good G f
theorem okFn_not {good : FuncId → Bool} {f : Fn} (h : okFn good f) : ∃ n, f = .func n ∧ good n = true := by
 cases f with
 | func n => exact ⟨n, rfl, h⟩
 | _ => exact h.elim
section
variable {P : Program} {good : FuncId → Bool} {G : Gs} {ρ : Rho}
theorem simple_alike {ok : Fn → Prop} {v : Value} (h : simpleV v = true) : VR ok ρ v v := by
 cases v with
 | bool b => exact .bool b
 | int k n => exact .int k n
 | string s => exact .string s
 | pointer a => cases a with
   | none => exact .pnil
   | some a => cases h
 | slice a n m => cases a with
   | none => exact .snil n m
   | some a => cases h
 | map r => cases r with
   | none => exact .mnil
   | some r => cases h
 | nilFunc => exact .nilFunc
 | nilIface => exact .nilIface
 | _ => cases h
theorem ev_alike {x X : Array Value} (hx : VRs (okFn good) ρ x X) (hG : ∀ g, G.gl g = true → ρ g g) {o : Operand} (h : okOperand good G o = true) : VR (okFn good) ρ (evT x o) (evT X o) := by
 cases o with
 | tmp t => exact hx.getD t .undef
 | const v => exact simple_alike h
 | global g => exact .ptr ⟨g, hG g h, rfl⟩
 | func f => exact .func h rfl (fun i v V a => by simp at a) rfl (fun i v V a => by simp at a)
theorem evs_alike {x X : Array Value} (hx : VRs (okFn good) ρ x X) (hG : ∀ g, G.gl g = true → ρ g g) {os : Array Operand} (h : os.all (okOperand good G) = true) : VRs (okFn good) ρ (os.map (evT x)) (os.map (evT X)) := by
 refine ⟨by simp, fun i v V a b => ?_⟩
 rw [Array.getElem?_map] at a b
 cases ho : os[i]? with
 | none => rw [ho] at a; cases a
 | some o =>
   rw [ho] at a b
   cases a; cases b
   have hi := Array.getElem?_eq_some_iff.1 ho
   exact ev_alike hx hG (by have := Array.all_eq_true.1 h i hi.1; rw [hi.2] at this; exact this)
theorem evp_alike {x X : Array Value} (hx : VRs (okFn good) ρ x X) (hG : ∀ g, G.gl g = true → ρ g g) {ps : Array (Nat × Operand)} (h : (ps.all fun p => okOperand good G p.2) = true) : PRs (okFn good) ρ (ps.map fun (i, o) => (i, evT x o)).toList (ps.map fun (i, o) => (i, evT X o)).toList := by
 rw [Array.toList_map, Array.toList_map]
 have h' : ∀ p ∈ ps.toList, okOperand good G p.2 = true := fun p hp => by
   have := Array.all_eq_true'.1 h p (by simpa using hp)
   exact this
 revert h'
 generalize ps.toList = l
 intro h'
 induction l with
 | nil => trivial
 | cons p l ih => exact ⟨rfl, ev_alike hx hG (h' p (by simp)), ih (fun q hq => h' q (by simp [hq]))⟩
theorem evo_alike {x X : Array Value} (hx : VRs (okFn good) ρ x X) (hG : ∀ g, G.gl g = true → ρ g g) {o : Option Operand} (h : o.all (okOperand good G) = true) : OV (okFn good) ρ (o.map (evT x)) (o.map (evT X)) := by
 cases o with
 | none => trivial
 | some o => exact ev_alike hx hG h
theorem sr_value {s S : Sem Value} (h : SR P (okFn good) (VR (okFn good)) s ρ S) (hg : Ext P ρ ρ) : SR P (okFn good) (NR P good) (do pure (.value (← s))) ρ (do pure (.value (← S))) :=
 srb hg h fun ρ' a b _ hab => sr_pure (.value hab)
theorem sr_callFunc (hF : GoodFns P good G) (hg : Ext P ρ ρ) (hG : ∀ g, G.gl g = true → ρ g g) {f : FuncId} (hf : good f = true) {x X : Array Value} (hx : VRs (okFn good) ρ x X) : SR P (okFn good) (NR P good) (callFunc f x) ρ (callFunc f X) := by
 rcases hF f hf with ⟨fn, b, h1, h2, h3⟩ | ⟨fn, e, h1, h2, h3, h4, h5, h6⟩ | ⟨fn, h1, h2, h3, h4, h5, h6⟩
 · unfold callFunc
   refine srb_program ?_
   simp only [h1, h2, h3]
   exact sr_pure (.enter f hf ⟨fn, b, h1, h3⟩ hx)
 · unfold callFunc
   refine srb_program ?_
   simp only [h1, h2, h3, h4, h5, Option.isNone_none, if_true, Bool.false_eq_true, if_false]
   refine srb_mark rfl ?_
   exact sr_value (h6 ρ x X hg hG hx) hg
 · unfold callFunc
   refine srb_program ?_
   simp only [h1, h2, h3, h4, h5, h6, Option.isNone_none, if_true, Bool.false_eq_true, if_false]
   exact srb_mark rfl sr_unsup
theorem dead_panicNil {α β : Type} {f : α → Sem β} : Dead P ((runtimePanic .panicNil : Sem α) >>= f) := by
 refine Dead.bind ?_
 show Dead P ((elemOf P.rt.panicNilError >>= fun e => newVar e (.agg #[]) >>= fun r => goPanic (.iface P.rt.panicNilError (.pointer (some r))) : Sem α))
 unfold elemOf
 show Dead P (((match P.underlying P.rt.panicNilError with | some d => pure d | none => stuck "no such type" : Sem TypeDesc) >>= _) >>= _)
 cases P.underlying P.rt.panicNilError with
 | none => exact (rfl : true = true)
 | some d => cases d <;> first | exact (rfl : true = true) | exact fun b => (rfl : true = true)
theorem sr_panicV (good : FuncId → Bool) (RA : Rho → Value → Value → Prop) {x X : Value} : SR P (okFn good) RA (Instr.panic x) ρ (Instr.panic X) := by
 cases x with
 | iface t v => exact (rfl : true = true)
 | nilIface =>
   intro r
   have key : ∀ n : Int, Dead P ((if n == 1 then goPanic .nilIface else runtimePanic .panicNil : Sem Value)) := fun n => by
     split
     · exact (rfl : true = true)
     · have := dead_panicNil (P := P) (α := Value) (f := fun v => pure v)
       rwa [bind_pure] at this
   cases r <;> first | exact (rfl : true = true) | exact key _
 | _ => exact (rfl : true = true)
theorem isIntT_iff {t : TypeId} (h : isIntT P t = true) : ∃ k, P.underlying t = some (.int k) := by
 unfold isIntT at h
 cases hq : P.underlying t with
 | none => rw [hq] at h; cases h
 | some d =>
   rw [hq] at h
   cases d with
   | int k => exact ⟨k, rfl⟩
   | _ => cases h
theorem sr_nilCheck (hg : Ext P ρ ρ) {x X : Value} (hx : VR (okFn good) ρ x X) (o : Oper) (q : Operand) (ev Ev : Operand → Value) (ho : o.op = .nilCheck q) (h1 : ev q = x) (h2 : Ev q = X) : SR P (okFn good) (NR P good) (execOp ev o) ρ (execOp Ev o) := by
 unfold execOp
 simp only [ho, h1, h2]
 cases hx with
 | func h a b c d =>
   obtain ⟨n, rfl, hn⟩ := okFn_not h
   exact sr_pure (.value (.func h a b c d))
 | pnil => exact sr_rtPanic (e := .nilDeref) rfl
 | nilFunc => exact sr_rtPanic (e := .nilDeref) rfl
 | nilIface => exact sr_rtPanic (e := .nilDeref) rfl
 | bool b => exact sr_pure (.value (.bool b))
 | int k n => exact sr_pure (.value (.int k n))
 | string s => exact sr_pure (.value (.string s))
 | ptr h => exact sr_pure (.value (.ptr h))
 | snil n m => exact sr_pure (.value (.snil n m))
 | slice n m h => exact sr_pure (.value (.slice n m h))
 | mnil => exact sr_pure (.value .mnil)
 | map h => exact sr_pure (.value (.map h))
 | cnil => exact sr_pure (.value .cnil)
 | iface t h => exact sr_pure (.value (.iface t h))
 | agg a b => exact sr_pure (.value (.agg a b))
 | tuple a b => exact sr_pure (.value (.tuple a b))
 | hole h =>
   cases X with
   | pointer a => cases a with
     | none => cases h
     | some a => exact sr_pure (.value (.hole h))
   | _ => first | (cases h; done) | exact sr_pure (.value (.hole h))
 | holeF => exact SR.dead (P := P) (s := (runtimePanic .nilDeref : Sem Next)) (show Dead P (runtimePanic .nilDeref : Sem Next) from (rfl : true = true))
def PlR (ok : Fn → Prop) (ρ : Rho) : Place → Place → Prop
 | .val v, .val V => VR ok ρ v V
 | .var a, .var A => AR ρ a A
 | _, _ => False
theorem srb_plGet {β : Type} {RB : Rho → β → β → Prop} (t : TypeId) {x X : Place} (h : PlR (okFn good) ρ x X) {f F : Value → Sem β} (k : ∀ v V, VR (okFn good) ρ v V → SR P (okFn good) RB (f v) ρ (F V)) : SR P (okFn good) RB (x.get t >>= f) ρ (X.get t >>= F) := by
 cases x <;> cases X <;> first | exact h.elim | skip
 · exact srb_pure (k _ _ h)
 · exact srb_loadVar h t k
theorem srb_follow {β : Type} {RB : Rho → β → β → Prop} {f F : TypeId × Place → Sem β} (k : ∀ t x X, PlR (okFn good) ρ x X → SR P (okFn good) RB (f (t, x)) ρ (F (t, X))) :
   ∀ (l : List FieldStep) (t : TypeId) {x X : Place}, PlR (okFn good) ρ x X → SR P (okFn good) RB (follow l t x >>= f) ρ (follow l t X >>= F) := by
 intro l
 induction l with
 | nil => intro t x X h; exact srb_pure (k t _ _ h)
 | cons s rest ih =>
   intro t x X h
   unfold follow
   simp only [bind_assoc]
   refine srb_underlying fun d hd => ?_
   cases d with
   | struct fields =>
     simp only
     cases fields[s.index]? with
     | none => exact srb_stuck
     | some fl =>
       simp only
       cases s.deref with
       | true =>
         simp only [if_true, bind_assoc]
         refine srb_plGet t h fun v V hv => srb_asAddr hv fun a A ha => srb_fieldPlace ha fl fun y Y hy => ?_
         exact ih _ hy
       | false =>
         simp only [Bool.false_eq_true, if_false]
         cases x <;> cases X <;> first | exact h.elim | skip
         · have hv : VR (okFn good) ρ _ _ := h
           cases hv with
           | agg hs hx =>
             simp only [bind_assoc]
             exact srb_part _ ⟨hs, hx⟩ _ fun v V hv => ih _ hv
           | _ => exact srb_stuck
         · simp only [bind_assoc]
           exact srb_fieldPlace h fl fun y Y hy => ih _ hy
   | _ => exact srb_stuck
theorem srb_method {β : Type} {RB : Rho → β → β → Prop} (n : String) (hm : methOk P good n = true) (t : TypeId) {v V : Value} (hv : VR (okFn good) ρ v V) {f F : FuncId × Value → Sem β}
   (h : ∀ g u U, good g = true → VR (okFn good) ρ u U → SR P (okFn good) RB (f (g, u)) ρ (F (g, U))) (fuel : Nat) : SR P (okFn good) RB (method fuel t v n >>= f) ρ (method fuel t V n >>= F) := by
 cases fuel with
 | zero => exact srb_unsup
 | succ fuel =>
   unfold method
   simp only [bind_assoc]
   refine srb_typeInfo fun i hi => ?_
   cases hfind : i.methods.find? (·.name == n) with
   | none => exact srb_stuck
   | some m =>
     have hmem := Array.mem_of_find?_eq_some hfind
     have hname := Array.find?_some hfind
     have hall : m.name != n || match m.func with
         | some (f, ptr) => good f && (ptr || (m.path.isEmpty && !(P.underlying t matches some (.pointer _))))
         | none => false := by
       have ht : t < P.types.size := by
         rcases info_meth hi with q | q
         · exact (Array.getElem?_eq_some_iff.1 q).1
         · rw [q] at hmem; simp at hmem
       have := List.all_eq_true.1 hm t (List.mem_range.2 ht)
       rw [hi] at this
       exact Array.all_eq_true'.1 this m hmem
     have hne : (m.name != n) = false := by simpa [bne] using hname
     rw [hne, Bool.false_or] at hall
     cases hfn : m.func with
     | none => rw [hfn] at hall; cases hall
     | some fp =>
       obtain ⟨g, ptr⟩ := fp
       rw [hfn] at hall
       simp only [Bool.and_eq_true, Bool.or_eq_true, Bool.not_eq_true'] at hall
       simp only [hfn]
       cases ptr with
       | true =>
         simp only [bind_assoc]
         refine srb_follow (x := .val v) (X := .val V) (fun t x X hx => ?_) m.path.toList t hv
         unfold receiverAt
         simp only [bind_assoc]
         refine srb_underlying fun d hd => ?_
         cases d with
         | pointer e => exact srb_plGet t hx fun v V hv => h g _ _ hall.1 hv
         | _ =>
           cases x <;> cases X <;> first | exact hx.elim | exact srb_stuck | exact srb_pure (h g _ _ hall.1 (.ptr hx))
       | false =>
         have hall2 := hall.2.resolve_left (by simp)
         have hp : m.path.toList = [] := by simpa using hall2.1
         simp only [hp, follow, pure_bind]
         unfold receiverAt
         simp only [bind_assoc]
         refine srb_underlying fun d hd => ?_
         have h2 := hall2.2
         rw [hd] at h2
         cases d <;> first | exact h g _ _ hall.1 hv | exact absurd h2 (by simp)
theorem sr_callMethod (hF : GoodFns P good G) (hg : Ext P ρ ρ) (hG : ∀ g, G.gl g = true → ρ g g) {n : String} {v V : Value} (hv : VR (okFn good) ρ v V) (hm : methOk P good n = true) {x X : Array Value} (hx : VRs (okFn good) ρ x X) :
   SR P (okFn good) (NR P good) (callMethod v n x) ρ (callMethod V n X) := by
 unfold callMethod
 cases hv with
 | iface t h => exact srb_program (srb_method n hm t h (fun g u U hgd hu => sr_callFunc hF hg hG hgd ((VRs.one hu).append hx)) _)
 | nilIface => exact sr_rtPanic (e := .nilDeref) rfl
 | _ => exact sr_stuck
theorem sr_typeAssert (hz : ZeroOk P (okFn good)) (s t : TypeId) {v V : Value} (hv : VR (okFn good) ρ v V) : SR P (okFn good) (VR (okFn good)) (Instr.typeAssert v s t true) ρ (Instr.typeAssert V s t true) := by
 have hfails : SR P (okFn good) (VR (okFn good)) (do pure (.tuple #[← zeroValue t, .bool false])) ρ (do pure (.tuple #[← zeroValue t, .bool false])) :=
   srb_zero hz fun z hz' => sr_pure (.tuple' ((VRs.one hz').push (.bool false)))
 have hholds : ∀ {u U : Value}, VR (okFn good) ρ u U → SR P (okFn good) (VR (okFn good)) (pure (.tuple #[u, .bool true])) ρ (pure (.tuple #[U, .bool true])) := fun hu => sr_pure (.tuple' ((VRs.one hu).push (.bool true)))
 unfold Instr.typeAssert
 refine srb_underlying fun d _ => ?_
 cases hv with
 | nilIface => cases d <;> exact hfails
 | iface u h =>
   cases d with
   | interface want =>
     refine srb_typeInfo fun i _ => ?_
     cases Instr.missingMethod want i.methods with
     | none => exact hholds (.iface u h)
     | some m => exact hfails
   | _ =>
     by_cases e : u = t
     · simp only [e, if_true]; exact hholds h
     · simp only [e, if_false]; exact hfails
 | _ => cases d <;> exact sr_stuck
theorem sr_call (hz : ZeroOk P (okFn good)) (hF : GoodFns P good G) (hg : Ext P ρ ρ) {x X : Array Value} (hx : VRs (okFn good) ρ x X) (hG : ∀ g, G.gl g = true → ρ g g) (c : Call) (t : TypeId) (hc : okCallee P good G c.callee = true) (ha : c.args.all (okOperand good G) = true) :
   SR P (okFn good) (NR P good) (do let d ← resolve (evT x) c t; invoke d.target d.args) ρ (do let d ← resolve (evT X) c t; invoke d.target d.args) := by
 have hargs := evs_alike hx hG ha
 unfold resolve
 cases hcal : c.callee with
 | invoke r n =>
   rw [hcal] at hc
   simp only [okCallee, Bool.and_eq_true] at hc
   have hr := ev_alike hx hG (o := r) hc.1
   refine srb_pure ?_
   unfold invoke
   simp only
   have e1 : (#[evT x r] ++ c.args.map (evT x))[0]? = some (evT x r) := by rw [Array.getElem?_append_left (by simp)]; rfl
   have e2 : (#[evT X r] ++ c.args.map (evT X))[0]? = some (evT X r) := by rw [Array.getElem?_append_left (by simp)]; rfl
   have e3 : (#[evT x r] ++ c.args.map (evT x)).extract 1 (#[evT x r] ++ c.args.map (evT x)).size = c.args.map (evT x) := by simp
   have e4 : (#[evT X r] ++ c.args.map (evT X)).extract 1 (#[evT X r] ++ c.args.map (evT X)).size = c.args.map (evT X) := by simp
   simp only [e1, e2, e3, e4]
   exact sr_callMethod hF hg hG hr hc.2 hargs
 | builtin b =>
   rw [hcal] at hc
   refine srb_pure ?_
   unfold invoke builtin
   cases b <;> first | (cases hc; done) | skip
   · exact sr_value (sr_append hz hg _ _ hargs) hg
   · exact sr_value (sr_cap _ _ hargs) hg
   · exact sr_value (sr_len _ _ hargs) hg
 | value f =>
   rw [hcal] at hc
   have hf := ev_alike hx hG (o := f) hc
   simp only
   generalize evT x f = v at hf ⊢
   generalize evT X f = V at hf ⊢
   cases hf with
   | func h a b c d =>
     obtain ⟨n, rfl, hn⟩ := okFn_not h
     refine srb_pure ?_
     unfold invoke
     exact sr_callFunc hF hg hG hn ((VRs.append ⟨a, b⟩ hargs).append ⟨c, d⟩)
   | nilFunc =>
     refine srb_pure ?_
     unfold invoke
     exact sr_rtPanic (e := .nilDeref) rfl
   | holeF =>
     refine SR.dead ?_
     show Dead P (invoke (.fn (.method "") #[]) (#[.nilIface] ++ c.args.map (evT x)))
     have h0 : (#[Value.nilIface] ++ c.args.map (evT x))[0]? = some .nilIface := by
       rw [Array.getElem?_append_left (by simp)]
       rfl
     unfold invoke
     simp only [h0]
     exact (rfl : true = true)
   | _ => exact srb_stuck
theorem sr_exec (hz : ZeroOk P (okFn good)) (hs : SizeOk P) (hF : GoodFns P good G) (hg : Ext P ρ ρ) {x X : Array Value} (hx : VRs (okFn good) ρ x X) (hG : ∀ g, G.gl g = true → ρ g g) (o : Oper) (ho : okOp P good G o.op = true) (hpt : partOp o.op = true) :
   SR P (okFn good) (NR P good) (execOp (evT x) o) ρ (execOp (evT X) o) := by
 have e : ∀ {q : Operand}, okOperand good G q = true → VR (okFn good) ρ (evT x q) (evT X q) := fun h => ev_alike hx hG h
 obtain ⟨dst, op, type, pos, after, guard⟩ := o
 cases op with
 | move q => exact sr_pure (.value (e ho))
 | assign q => exact sr_pure (.value (e ho))
 | pick c a b =>
   simp only [okOp, Bool.and_eq_true] at ho
   refine srb_asBool (e ho.1.1) fun t => sr_pure (.value ?_)
   split
   · exact e ho.1.2
   · exact e ho.2
 | alloc t => exact sr_value (sr_alloc hz t) hg
 | box t q => exact sr_value (sr_box t (e ho)) hg
 | build t ps => exact sr_value (sr_build hz t (evp_alike hx hG ho)) hg
 | buildSlice t l ps => exact sr_value (sr_buildSlice hz hs t l (evp_alike hx hG ho)) hg
 | load t a => exact sr_value (sr_loadAt t (e ho)) hg
 | store t a v =>
   simp only [okOp, Bool.and_eq_true] at ho
   exact srb_storeAt t (e ho.1) (e ho.2) (sr_pure .skip)
 | nilCheck q => exact sr_nilCheck hg (e ho) _ q _ _ rfl rfl rfl
 | binOp op t a b u =>
   simp only [okOp, Bool.and_eq_true, Bool.or_eq_true] at ho
   have hb : (op = .eql ∨ op = .neq) → simpleO b = true := fun h => by
     rcases (Bool.or_eq_true _ _).mp hpt with q | q
     · rcases h with rfl | rfl <;> cases q
     · exact q
   have hv : (op = .eql ∨ op = .neq) → simpleV (evT x b) = true := fun h => by
     have := hb h
     cases b with
     | const v => exact this
     | _ => cases this
   refine sr_value ?_ hg
   refine srb_eqGuard op t a b (e ho.1.1) (e ho.1.2) (fun h => ⟨hb h, hv h⟩) ?_
   by_cases h : op = .eql ∨ op = .neq
   · exact sr_binEq op h t (e ho.1.1) (e ho.1.2) (hv h)
   · exact sr_binAr hg op h t (e ho.1.1) (e ho.1.2)
 | unOp op t q => exact sr_value (sr_unary op (e ho)) hg
 | convert s d q =>
   simp only [okOp, Bool.and_eq_true] at ho
   exact sr_value (sr_convert s d (e ho.2) (isIntT_iff ho.1.1) (isIntT_iff ho.1.2)) hg
 | makeInterface t q => exact sr_value (sr_makeInterface t (e ho)) hg
 | makeFunc fn a b =>
   simp only [okOp, Bool.and_eq_true] at ho
   refine sr_value (sr_pure ?_) hg
   have h1 := evs_alike hx hG ho.1.2
   have h2 := evs_alike hx hG ho.2
   cases fn with
   | func n => exact .func ho.1.1 h1.1 h1.2 h2.1 h2.2
   | _ => cases ho.1.1
 | makeSlice t l c =>
   simp only [okOp, Bool.and_eq_true] at ho
   exact sr_value (sr_makeSlice hz hs t (e ho.1) (e ho.2)) hg
 | slice t q l h m =>
   simp only [okOp, Bool.and_eq_true] at ho
   exact sr_value (sr_sliceAt t (e ho.1.1.1) (evo_alike hx hG ho.1.1.2) (evo_alike hx hG ho.1.2) (evo_alike hx hG ho.2)) hg
 | fieldAddr t q i => exact sr_value (sr_fieldAt t (e ho) i) hg
 | field t q i => exact sr_value (sr_field t (e ho) i) hg
 | indexAddr t q i =>
   simp only [okOp, Bool.and_eq_true] at ho
   exact sr_value (sr_indexAt t (e ho.1) (e ho.2)) hg
 | extract q i => exact sr_value (sr_extract (e ho) i) hg
 | typeAssert q s t c =>
   simp only [okOp, Bool.and_eq_true] at ho
   obtain ⟨rfl, ho⟩ := ho
   exact sr_value (sr_typeAssert hz s t (e ho)) hg
 | call c =>
   simp only [okOp, Bool.and_eq_true] at ho
   exact sr_call hz hF hg hx hG c type ho.1 ho.2
 | panic q => exact sr_value (sr_panicV good _) hg
 | _ => cases ho
end
end Go.Proofs.YtajnfkmkombajabDoor
namespace Go.Proofs.YtajnfkmkombajabDoor
open Go Go.Conc
def mkF (fn : FuncId) (tmps : Array Value) (todo : List Item) (mode : FrameMode) : Frame := { fn, tmps, todo, defers := [], mode, kind := .normal, roundOf := none }
def okCode (P : Program) (good : FuncId → Bool) (Gl : Gs) : Code → Bool
 | .skip | .exit _ | .ret | .label _ => true
 | .seq a b => okCode P good Gl a && okCode P good Gl b
 | .cond c a b => okOperand good Gl c && okCode P good Gl a && okCode P good Gl b
 | .block _ b | .loop b | .scope b => okCode P good Gl b
 | .region _ ops _ => ops.all fun o => okOp P good Gl o.op
 | _ => false
def okItem (P : Program) (good : FuncId → Bool) (Gl : Gs) : Item → Bool
 | .code c => okCode P good Gl c
 | .inBlock _ => true
 | .inLoop b | .inScope b => okCode P good Gl b
 | .inRegion ops _ => ops.all fun o => okOp P good Gl o.op
 | _ => false
section
variable {P : Program} {main : Bool} {fn : FuncId} {t : Array Value} {k : List Item} {cs : List Frame} {w : World}
theorem st_nil : stepG P main (G (mkF fn t [] .run) cs) w = .go (G (mkF fn t [] .returning) cs) w #[] := by simp [mkF, G, stepG, stepG.exec]
theorem st_ret : stepG P main (G (mkF fn t (.code .ret :: k) .run) cs) w = .go (G (mkF fn t (.code .ret :: k) .returning) cs) w #[] := by simp [mkF, G, stepG, stepG.exec]
theorem st_skip : stepG P main (G (mkF fn t (.code .skip :: k) .run) cs) w = .go (G (mkF fn t k .run) cs) w #[] := by simp [mkF, G, stepG, stepG.exec]
theorem st_label {l : Nat} : stepG P main (G (mkF fn t (.code (.label l) :: k) .run) cs) w = .go (G (mkF fn t k .run) cs) w #[] := by simp [mkF, G, stepG, stepG.exec]
theorem st_inBlock {l : Nat} : stepG P main (G (mkF fn t (.inBlock l :: k) .run) cs) w = .go (G (mkF fn t k .run) cs) w #[] := by simp [mkF, G, stepG, stepG.exec]
theorem st_inScope {b : Code} : stepG P main (G (mkF fn t (.inScope b :: k) .run) cs) w = .go (G (mkF fn t k .run) cs) w #[] := by simp [mkF, G, stepG, stepG.exec]
theorem st_seq {a b : Code} : stepG P main (G (mkF fn t (.code (.seq a b) :: k) .run) cs) w = .go (G (mkF fn t (.code a :: .code b :: k) .run) cs) w #[] := by simp [mkF, G, stepG, stepG.exec]
theorem st_block {i : Nat} {b : Code} : stepG P main (G (mkF fn t (.code (.block i b) :: k) .run) cs) w = .go (G (mkF fn t (.code b :: .inBlock i :: k) .run) cs) w #[] := by simp [mkF, G, stepG, stepG.exec]
theorem st_loop {b : Code} : stepG P main (G (mkF fn t (.code (.loop b) :: k) .run) cs) w = .go (G (mkF fn t (.code b :: .inLoop b :: k) .run) cs) w #[] := by simp [mkF, G, stepG, stepG.exec]
theorem st_inLoop {b : Code} : stepG P main (G (mkF fn t (.inLoop b :: k) .run) cs) w = .go (G (mkF fn t (.code b :: .inLoop b :: k) .run) cs) w #[] := by simp [mkF, G, stepG, stepG.exec]
theorem st_scope {b : Code} : stepG P main (G (mkF fn t (.code (.scope b) :: k) .run) cs) w = .go (G (mkF fn t (.code b :: .inScope b :: k) .run) cs) w #[] := by simp [mkF, G, stepG, stepG.exec]
theorem st_exit {i : Nat} {k' : List Item} (h : exitTo i k = some k') : stepG P main (G (mkF fn t (.code (.exit i) :: k) .run) cs) w = .go (G (mkF fn t k' .run) cs) w #[] := by simp [mkF, G, stepG, stepG.exec, h]
theorem st_exit_bad {i : Nat} (h : exitTo i k = none) : ∃ o, stepG P main (G (mkF fn t (.code (.exit i) :: k) .run) cs) w = .ended o w #[] := ⟨_, by simp [mkF, G, stepG, stepG.exec, h]; rfl⟩
theorem eval_mkF {m : FrameMode} {td : List Item} : (mkF fn t td m).eval = evT t := by
 funext o
 cases o <;> rfl
theorem st_cond {c : Operand} {a b : Code} {v : Bool} (h : evT t c = .bool v) : stepG P main (G (mkF fn t (.code (.cond c a b) :: k) .run) cs) w = .go (G (mkF fn t (.code (if v then a else b) :: k) .run) cs) w #[] := by
 have e : (mkF fn t (.code (.cond c a b) :: k) .run).eval c = .bool v := by rw [eval_mkF]; exact h
 simp only [mkF] at e
 simp [mkF, G, stepG, stepG.exec, e]
theorem st_cond_bad {c : Operand} {a b : Code} (h : ∀ v, evT t c ≠ .bool v) : ∃ o, stepG P main (G (mkF fn t (.code (.cond c a b) :: k) .run) cs) w = .ended o w #[] := by
 have e : (mkF fn t (.code (.cond c a b) :: k) .run).eval c = evT t c := by rw [eval_mkF]
 simp only [mkF] at e
 refine ⟨.stuck "cond: bool expected" ((mkF fn t (.code (.cond c a b) :: k) .run).pos P), ?_⟩
 simp only [mkF, G, stepG, stepG.exec, e]
theorem st_region {i : Nat} {ops : Array Oper} : stepG P main (G (mkF fn t (.code (.region i ops false) :: k) .run) cs) w = .go (G (mkF fn t (.inRegion ops (List.range ops.size) :: k) .run) cs) w #[] := by simp [mkF, G, stepG, stepG.exec]
theorem st_draw {i : Nat} {ops : Array Oper} : stepG P main (G (mkF fn t (.code (.region i ops true) :: k) .run) cs) w = .go (G (mkF fn t (.inRegion ops (Region.schedule (P.follows .mixedOrders) ops (w.tape w.drawn (.order fn i))) :: k) .run) cs) { w with drawn := w.drawn + 1 } #[] := by
 simp [mkF, G, stepG, stepG.exec, choose, Sem.run, Question.forced, Question.cut]
theorem st_end {ops : Array Oper} : stepG P main (G (mkF fn t (.inRegion ops [] :: k) .run) cs) w = .go (G (mkF fn t k .run) cs) w #[] := by simp [mkF, G, stepG, stepG.exec]
theorem st_skipped {ops : Array Oper} {i : Nat} {r : List Nat} (h : ((ops[i]?).map (Region.wanted · (yielded ops t))).getD false = false) :
   stepG P main (G (mkF fn t (.inRegion ops (i :: r) :: k) .run) cs) w = .go (G (mkF fn (match (ops[i]?).bind (·.dst) with | some d => t.setIfInBounds d undef | none => t) (.inRegion ops r :: k) .run) cs) w #[] := by
 simp only [mkF, G, stepG, stepG.exec, h, Frame.finish]
 rfl
theorem st_oper {ops : Array Oper} {i : Nat} {r : List Nat} {o : Oper} (ho : ops[i]? = some o) (h : ((ops[i]?).map (Region.wanted · (yielded ops t))).getD false = true) :
   stepG P main (G (mkF fn t (.inRegion ops (i :: r) :: k) .run) cs) w = stepG.apply P true (mkF fn t (.inRegion ops (i :: r) :: k) .run) cs none (execOp (evT t) o) w := by
 have e : (mkF fn t (.inRegion ops (i :: r) :: k) .run).eval = evT t := eval_mkF
 simp only [mkF] at e
 rw [ho] at h
 simp only [mkF, G, stepG, stepG.exec, stepG.oper, Frame.oper?, ho, e, h, if_true]
theorem seen_sub (P : Program) (f : FuncId) (es : Array Event) : ∀ e ∈ seen P f es, e ∈ es := by
 unfold seen
 simp only
 have key : ∀ (l : List Event) (acc : Bool × Array Event) (S : Array Event), (∀ e ∈ acc.2, e ∈ S) → (∀ e ∈ l, e ∈ S) → ∀ e ∈ (l.foldl (fun (x : Bool × Array Event) e =>
     match e.loc with
     | .mark (.extern f) => ((P.funcs[f]?).any (·.norace), x.2)
     | _ => (x.1, if x.1 && !e.sync then x.2 else x.2.push e)) acc).2, e ∈ S := by
   intro l
   induction l with
   | nil => intro acc S h _; exact h
   | cons a l ih =>
     intro acc S h hl
     refine ih _ S ?_ (fun e he => hl e (by simp [he]))
     dsimp only
     split
     · exact h
     · intro e he
       simp only at he
       split at he
       · exact h e he
       · rcases Array.mem_push.1 he with q | q
         · exact h e q
         · rw [q]; exact hl a (by simp)
 intro e he
 rw [← Array.foldl_toList] at he
 exact key es.toList _ es (fun e q => by simp at q) (fun e q => by simpa using q) e he
end
end Go.Proofs.YtajnfkmkombajabDoor
