/-
  One goroutine's own step in company, and the same step alone: values, memory and programs of effects that are alike up to the numbers of blocks. No program in sight.
-/
import Derived.Conc.Own
import Derived.RunT
set_option linter.unusedVariables false
set_option linter.unusedSimpArgs false
namespace Go.Proofs.YtajnfkmkombajabDoor
open Go
abbrev Rho := Nat → Nat → Prop
structure Ext (P : Program) (ρ ρ' : Rho) : Prop where
 le : ∀ b B, ρ b B → ρ' b B
 fn : ∀ b B B', ρ' b B → ρ' b B' → B = B'
 inj : ∀ b b' B, ρ' b B → ρ' b' B → b = b'
 glob : ∀ b B, ρ' b B → (b < P.globals.size ↔ B < P.globals.size)
theorem Ext.refl {P : Program} {ρ ρ' : Rho} (h : Ext P ρ ρ') : Ext P ρ' ρ' := ⟨fun _ _ q => q, h.fn, h.inj, h.glob⟩
theorem Ext.trans {P : Program} {a b c : Rho} (h : Ext P a b) (k : Ext P b c) : Ext P a c := ⟨fun x y q => k.le x y (h.le x y q), k.fn, k.inj, k.glob⟩
def AR (ρ : Rho) (a A : Addr) : Prop := ∃ B, ρ a.block B ∧ A = ⟨B, a.off, a.spot⟩
theorem AR.ext {ρ ρ' : Rho} (e : ∀ b B, ρ b B → ρ' b B) {a A : Addr} (h : AR ρ a A) : AR ρ' a A := by
 obtain ⟨B, h, rfl⟩ := h
 exact ⟨B, e _ _ h, rfl⟩
theorem AR.add {ρ : Rho} {a A : Addr} (h : AR ρ a A) (n : Nat) : AR ρ (a.add n) (A.add n) := by
 obtain ⟨B, h, rfl⟩ := h
 unfold Addr.add
 split
 · exact ⟨B, h, rfl⟩
 · exact ⟨B, h, rfl⟩
def holeV : Value → Bool
 | .pointer (some _) | .slice (some _) .. | .map (some _) | .chan (some _) | .float .. | .complex .. => true
 | _ => false
def holeFn : Value := .func (.method "") #[.nilIface] #[]
inductive VR (ok : Fn → Prop) (ρ : Rho) : Value → Value → Prop
 | bool (b : Bool) : VR ok ρ (.bool b) (.bool b)
 | int (k : IntKind) (n : Int) : VR ok ρ (.int k n) (.int k n)
 | string (s : ByteArray) : VR ok ρ (.string s) (.string s)
 | pnil : VR ok ρ (.pointer none) (.pointer none)
 | ptr {a A : Addr} (h : AR ρ a A) : VR ok ρ (.pointer (some a)) (.pointer (some A))
 | snil (n m : Nat) : VR ok ρ (.slice none n m) (.slice none n m)
 | slice {a A : Addr} (n m : Nat) (h : AR ρ a A) : VR ok ρ (.slice (some a) n m) (.slice (some A) n m)
 | mnil : VR ok ρ (.map none) (.map none)
 | map {r R : Nat} (h : ρ r R) : VR ok ρ (.map (some r)) (.map (some R))
 | cnil : VR ok ρ (.chan none) (.chan none)
 | func {f : Fn} {x X c C : Array Value} (h : ok f) (hs : x.size = X.size) (hx : ∀ (i : Nat) v V, x[i]? = some v → X[i]? = some V → VR ok ρ v V)
     (hd : c.size = C.size) (hc : ∀ (i : Nat) v V, c[i]? = some v → C[i]? = some V → VR ok ρ v V) : VR ok ρ (.func f x c) (.func f X C)
 | nilFunc : VR ok ρ .nilFunc .nilFunc
 | iface {v V : Value} (t : TypeId) (h : VR ok ρ v V) : VR ok ρ (.iface t v) (.iface t V)
 | nilIface : VR ok ρ .nilIface .nilIface
 | agg {x X : Array Value} (hs : x.size = X.size) (hx : ∀ (i : Nat) v V, x[i]? = some v → X[i]? = some V → VR ok ρ v V) : VR ok ρ (.agg x) (.agg X)
 | tuple {x X : Array Value} (hs : x.size = X.size) (hx : ∀ (i : Nat) v V, x[i]? = some v → X[i]? = some V → VR ok ρ v V) : VR ok ρ (.tuple x) (.tuple X)
 /-- alone nothing is known of it: whoever uses it is halted -/
 | hole {V : Value} (h : holeV V = true) : VR ok ρ undef V
 | holeF {F : Fn} {X C : Array Value} : VR ok ρ holeFn (.func F X C)
def VRs (ok : Fn → Prop) (ρ : Rho) (x X : Array Value) : Prop := x.size = X.size ∧ ∀ (i : Nat) v V, x[i]? = some v → X[i]? = some V → VR ok ρ v V
section
variable {ok : Fn → Prop} {ρ ρ' : Rho}
theorem VR.ext (e : ∀ b B, ρ b B → ρ' b B) {v V : Value} (h : VR ok ρ v V) : VR ok ρ' v V := by
 induction h with
 | bool | int | string | pnil | snil | mnil | cnil | nilFunc | nilIface => constructor
 | map h => exact .map (e _ _ h)
 | ptr h => exact .ptr (h.ext e)
 | slice n m h => exact .slice n m (h.ext e)
 | func h hs _ hd _ ih1 ih2 => exact .func h hs ih1 hd ih2
 | iface t _ ih => exact .iface t ih
 | agg hs _ ih => exact .agg hs ih
 | tuple hs _ ih => exact .tuple hs ih
 | hole h => exact .hole h
 | holeF => exact .holeF
theorem VRs.ext (e : ∀ b B, ρ b B → ρ' b B) {x X : Array Value} (h : VRs ok ρ x X) : VRs ok ρ' x X := ⟨h.1, fun i v V a b => (h.2 i v V a b).ext e⟩
theorem VRs.get {x X : Array Value} (h : VRs ok ρ x X) {i : Nat} {v : Value} (hv : x[i]? = some v) : ∃ V, X[i]? = some V ∧ VR ok ρ v V := by
 have hi : i < x.size := (Array.getElem?_eq_some_iff.1 hv).1
 have hI : i < X.size := h.1 ▸ hi
 exact ⟨X[i], Array.getElem?_eq_getElem hI, h.2 i v _ hv (Array.getElem?_eq_getElem hI)⟩
theorem VRs.none {x X : Array Value} (h : VRs ok ρ x X) {i : Nat} (hv : x[i]? = none) : X[i]? = none := by
 rw [Array.getElem?_eq_none_iff] at *
 rw [← h.1]; exact hv
theorem VRs.set {x X : Array Value} (h : VRs ok ρ x X) (i : Nat) {v V : Value} (hv : VR ok ρ v V) : VRs ok ρ (x.setIfInBounds i v) (X.setIfInBounds i V) := by
 refine ⟨by simpa using h.1, fun j u U a b => ?_⟩
 rw [Array.getElem?_setIfInBounds] at a b
 split at a
 · next e =>
   rw [if_pos e] at b
   split at a
   · split at b
     · cases a; cases b; exact hv
     · cases b
   · cases a
 · next e =>
   rw [if_neg e] at b
   exact h.2 j u U a b
theorem VRs.empty : VRs ok ρ #[] #[] := ⟨rfl, fun i v V a => by simp at a⟩
theorem VRs.push {x X : Array Value} (h : VRs ok ρ x X) {v V : Value} (hv : VR ok ρ v V) : VRs ok ρ (x.push v) (X.push V) := by
 refine ⟨by simp [h.1], fun j u U a b => ?_⟩
 rw [Array.getElem?_push] at a b
 rw [h.1] at a
 split at a
 · next e => rw [if_pos e] at b; cases a; cases b; exact hv
 · next e => rw [if_neg e] at b; exact h.2 j u U a b
theorem VRs.append {x X y Y : Array Value} (h : VRs ok ρ x X) (k : VRs ok ρ y Y) : VRs ok ρ (x ++ y) (X ++ Y) := by
 refine ⟨by simp [h.1, k.1], fun j u U a b => ?_⟩
 rw [Array.getElem?_append] at a b
 rw [h.1] at a
 split at a
 · next e => rw [if_pos e] at b; exact h.2 j u U a b
 · next e => rw [if_neg e] at b; exact k.2 _ u U a b
theorem VRs.extract {x X : Array Value} (h : VRs ok ρ x X) (i j : Nat) : VRs ok ρ (x.extract i j) (X.extract i j) := by
 refine ⟨by simp [h.1], fun k u U a b => ?_⟩
 rw [Array.getElem?_extract] at a b
 rw [h.1] at a
 split at a
 · next e => rw [if_pos e] at b; exact h.2 _ u U a b
 · cases a
theorem VRs.one {v V : Value} (h : VR ok ρ v V) : VRs ok ρ #[v] #[V] := VRs.empty.push h
theorem VRs.getD {x X : Array Value} (h : VRs ok ρ x X) (i : Nat) {d D : Value} (hd : VR ok ρ d D) : VR ok ρ (x.getD i d) (X.getD i D) := by
 rw [Array.getD_eq_getD_getElem?, Array.getD_eq_getD_getElem?]
 cases hv : x[i]? with
 | none => rw [h.none hv]; exact hd
 | some v =>
   obtain ⟨V, hV, q⟩ := h.get hv
   rw [hV]; exact q
theorem VR.undef : VR ok ρ undef undef := .tuple rfl (fun i v V a => by simp at a)
theorem VR.agg' {x X : Array Value} (h : VRs ok ρ x X) : VR ok ρ (.agg x) (.agg X) := .agg h.1 h.2
theorem VR.tuple' {x X : Array Value} (h : VRs ok ρ x X) : VR ok ρ (.tuple x) (.tuple X) := .tuple h.1 h.2
theorem VR.cells {v V : Value} (h : VR ok ρ v V) : VRs ok ρ v.cells V.cells := by
 cases h with
 | agg hs hx => exact ⟨hs, hx⟩
 | bool => exact .one (.bool _)
 | int => exact .one (.int _ _)
 | string => exact .one (.string _)
 | pnil => exact .one .pnil
 | ptr h => exact .one (.ptr h)
 | snil => exact .one (.snil _ _)
 | slice n m h => exact .one (.slice n m h)
 | mnil => exact .one .mnil
 | map h => exact .one (.map h)
 | cnil => exact .one .cnil
 | func h hs hx hd hc => exact .one (.func h hs hx hd hc)
 | nilFunc => exact .one .nilFunc
 | iface t h => exact .one (.iface t h)
 | nilIface => exact .one .nilIface
 | tuple hs hx => exact .one (.tuple hs hx)
 | @hole V h =>
   have : V.cells = #[V] := by cases V <;> first | rfl | cases h
   rw [this]; exact .one (.hole h)
 | holeF => exact .one .holeF
end
def ERs (ok : Fn → Prop) (ρ : Rho) (x X : Array MapEntry) : Prop := x.size = X.size ∧ ∀ (i : Nat) v V, x[i]? = some v → X[i]? = some V → VR ok ρ v.key V.key ∧ VR ok ρ v.val V.val ∧ v.born = V.born
inductive OR (ok : Fn → Prop) (ρ : Rho) : Obj → Obj → Prop
 | cells {c C : Array Value} (t : TypeId) {f F : Nat × Nat} (h : VRs ok ρ c C) (hf : ∀ i, i < c.size → (decide (F.1 ≤ i) && decide (i < F.2)) = true → (decide (f.1 ≤ i) && decide (i < f.2)) = true) : OR ok ρ (.cells c t f) (.cells C t F)
 | number {a A : Addr} (l : Bool) (h : AR ρ a A) : OR ok ρ (.number a l) (.number A l)
 | map {x X : Array MapEntry} (k : Nat) (h : ERs ok ρ x X) : OR ok ρ (.map x k) (.map X k)
 | iterNil (a : Nat) (s : Array Nat) (b : Nat) : OR ok ρ (.mapIter none a s b) (.mapIter none a s b)
 | iter {r R : Nat} (a : Nat) (s : Array Nat) (b : Nat) (h : ρ r R) : OR ok ρ (.mapIter (some r) a s b) (.mapIter (some R) a s b)
 /-- alone the row has less cells: a look at those that it lacks is halted -/
 | pre {c C : Array Value} (t : TypeId) {f F : Nat × Nat} (hs : c.size ≤ C.size) (h : ∀ (i : Nat) v V, c[i]? = some v → C[i]? = some V → VR ok ρ v V) (hf : ∀ i, i < c.size → (decide (F.1 ≤ i) && decide (i < F.2)) = true → (decide (f.1 ≤ i) && decide (i < f.2)) = true) : OR ok ρ (.cells c t f) (.cells C t F)
def ShR (s S : Option (TypeId × Nat)) : Prop := s = S ∨ ∃ t n N, s = some (t, n) ∧ S = some (t, N) ∧ n ≤ N
theorem ShR.some {s S : Option (TypeId × Nat)} (h : ShR s S) : S.isSome = s.isSome := by
 rcases h with rfl | ⟨t, n, N, rfl, rfl, -⟩ <;> rfl
theorem ShR.is {x : TypeId × Nat} {S : Option (TypeId × Nat)} (h : ShR (Option.some x) S) : ∃ n, S = Option.some (x.1, n) := by
 rcases h with rfl | ⟨t, n, N, h, rfl, -⟩
 · exact ⟨x.2, rfl⟩
 · cases h; exact ⟨N, rfl⟩
theorem OR.ext {ok : Fn → Prop} {ρ ρ' : Rho} (e : ∀ b B, ρ b B → ρ' b B) {o O : Obj} (h : OR ok ρ o O) : OR ok ρ' o O := by
 cases h with
 | cells t h hf => exact .cells t (h.ext e) hf
 | number l h => exact .number l (h.ext e)
 | map k h => exact .map k ⟨h.1, fun i v V a b => ⟨(h.2 i v V a b).1.ext e, (h.2 i v V a b).2.1.ext e, (h.2 i v V a b).2.2⟩⟩
 | iterNil => constructor
 | iter a s b h => exact .iter a s b (e _ _ h)
 | pre t hs h hf => exact .pre t hs (fun i v V a b => (h i v V a b).ext e) hf
def _root_.Go.Obj.free : Obj → Bool
 | .number .. | .map .. | .mapIter .. => true
 | _ => false
def thawed : Obj → Bool
 | .cells _ _ f => f == (0, 0)
 | _ => true
def idleMark : Mark → Bool
 | .extern _ | .noRoom => true
 | _ => false
def plainV : Value → Bool
 | .agg _ | .tuple _ => false
 | _ => true
theorem runT_store {α : Type} (P : Program) (m : Go.Mode) (a : Addr) (v : Value) (k : Sem α) (w : World) (es : Array Event) (h : plainV v = true) :
   (Sem.store m a v k).runT P w es = (match w.cell? a with
     | some _ => if w.frozen? a then (.halt (.unsupported (.unsafePointer "a write to bytes that a string shares")) w, es) else k.runT P (w.setCell a v) (es.push ⟨.cell a, true, m == .atomic⟩)
     | none => match w.farStore P a v (m == .atomic) with
       | .ok (w, touched) => k.runT P w (es ++ touched.toArray.map (⟨.cell ·, true, m == .atomic⟩))
       | .error h => (.halt h w, es)) := by
 cases v <;> first | rfl | cases h
theorem runT_store_agg {α : Type} (P : Program) (m : Go.Mode) (a : Addr) (v : Value) (k : Sem α) (w : World) (es : Array Event) (h : plainV v = false) :
   (Sem.store m a v k).runT P w es = (.halt (.stuck "store: not the value of one cell") w, es) := by
 cases v <;> first | rfl | cases h
def plainHalt : Halt → Bool
 | .panic _ | .stuck _ => true
 | .unsupported u => !(u matches .initOrder _)
 | _ => false
def Dead {α : Type} (P : Program) : Sem α → Prop
 | .shape _ k => ∀ s, Dead P (k s)
 | .frozen _ k => ∀ b, Dead P (k b)
 | .new _ k => ∀ b, Dead P (k b)
 | .choose _ k => ∀ n, Dead P (k n)
 | .sys _ k => ∀ r, Dead P (k r)
 | .program k => Dead P (k P)
 | .mark _ k => Dead P k
 | .halt h => plainHalt h = true
 | .pure _ | .load .. | .store .. | .freeze .. | .getObj .. | .setObj .. => False
theorem Dead.bind {α β : Type} {P : Program} {f : α → Sem β} : ∀ {s : Sem α}, Dead P s → Dead P (s.bind f) := by
 intro s
 induction s with
 | new o k ih => intro h b; exact ih b (h b)
 | shape r k ih => intro h s; exact ih s (h s)
 | frozen a k ih => intro h b; exact ih b (h b)
 | choose q k ih => intro h n; exact ih n (h n)
 | sys c k ih => intro h r; exact ih r (h r)
 | program k ih => intro h; exact ih P h
 | mark m k ih => intro h; exact ih h
 | halt h => intro q; exact q
 | _ => intro h; exact h.elim
theorem Dead.runT {α : Type} {P : Program} : ∀ {s : Sem α}, Dead P s → ∀ (w : World) (es : Array Event), ∃ h w', plainHalt h = true ∧ (s.runT P w es).1 = .halt h w' := by
 intro s
 induction s with
 | new o k ih => intro h w es; exact ih _ (h _) _ _
 | shape r k ih => intro h w es; exact ih _ (h _) _ _
 | frozen a k ih => intro h w es; exact ih _ (h _) _ _
 | choose q k ih =>
   intro h w es
   simp only [Sem.runT]
   split
   · exact ih _ (h _) _ _
   · exact ih _ (h _) _ _
 | sys c k ih => intro h w es; exact ih _ (h _) _ _
 | program k ih => intro h w es; exact ih _ h _ _
 | mark m k ih => intro h w es; exact ih h _ _
 | halt h => intro q w es; exact ⟨_, _, q, rfl⟩
 | _ => intro h; exact h.elim
def SR {α : Type} (P : Program) (ok : Fn → Prop) (RA : Rho → α → α → Prop) : Sem α → Rho → Sem α → Prop
 | .pure a, ρ, S => ∃ b, S = .pure b ∧ RA ρ a b
 | .load m a k, ρ, S => ∃ A K, S = .load m A K ∧ m = .plain ∧ AR ρ a A ∧ ∀ v V, VR ok ρ v V → SR P ok RA (k v) ρ (K V)
 | .store m a v k, ρ, S => ∃ A V K, S = .store m A V K ∧ m = .plain ∧ AR ρ a A ∧ VR ok ρ v V ∧ SR P ok RA k ρ K
 | .new o k, ρ, S => (∃ O K, S = .new O K ∧ OR ok ρ o O ∧ (thawed o = true ∧ thawed O = true) ∧ ∀ b B ρ', Ext P ρ ρ' → ρ' b B → SR P ok RA (k b) ρ' (K B)) ∨ ∀ b, Dead P (k b)
 | .shape r k, ρ, S => (∃ R K, S = .shape R K ∧ ρ r R ∧ ∀ s s', ShR s s' → SR P ok RA (k s) ρ (K s') ∨ Dead P (k s)) ∨ ∀ s, Dead P (k s)
 | .choose q k, ρ, S => (∃ K, S = .choose q K ∧ ∀ n, SR P ok RA (k n) ρ (K n)) ∨ ∀ n, Dead P (k n)
 | .program k, ρ, S => (∃ K, S = .program K ∧ SR P ok RA (k P) ρ (K P)) ∨ Dead P (k P)
 | .mark m k, ρ, S => (∃ K, S = .mark m K ∧ idleMark m = true ∧ SR P ok RA k ρ K) ∨ Dead P k
 | .getObj r k, ρ, S => ∃ R K, S = .getObj R K ∧ ρ r R ∧ ∀ o O, o.free = true → OR ok ρ o O → SR P ok RA (k o) ρ (K O)
 | .setObj r o k, ρ, S => ∃ R O K, S = .setObj R O K ∧ ρ r R ∧ OR ok ρ o O ∧ o.free = true ∧ SR P ok RA k ρ K
 | .halt h, _, _ => plainHalt h = true
 | .freeze .., _, _ => False
 | .frozen _ k, _, _ => ∀ b, Dead P (k b)
 | .sys _ k, _, _ => ∀ r, Dead P (k r)
section
variable {α β : Type} {P : Program} {ok : Fn → Prop}
theorem SR.bind {RA : Rho → α → α → Prop} {RB : Rho → β → β → Prop} {f F : α → Sem β} : ∀ {s S : Sem α} {ρ : Rho}, Ext P ρ ρ → SR P ok RA s ρ S → (∀ ρ' a b, Ext P ρ ρ' → RA ρ' a b → SR P ok RB (f a) ρ' (F b)) → SR P ok RB (s.bind f) ρ (S.bind F) := by
 intro s
 induction s with
 | pure a => rintro S ρ hg ⟨b, rfl, h⟩ hf; exact hf ρ a b hg h
 | load m a k ih => rintro S ρ hg ⟨A, K, rfl, hm, h, hk⟩ hf; exact ⟨A, _, rfl, hm, h, fun v V hv => ih v hg (hk v V hv) hf⟩
 | store m a v k ih => rintro S ρ hg ⟨A, V, K, rfl, hm, h, hv, hk⟩ hf; exact ⟨A, V, _, rfl, hm, h, hv, ih hg hk hf⟩
 | new o k ih =>
   rintro S ρ hg (⟨O, K, rfl, h, ht, hk⟩ | h) hf
   · exact .inl ⟨O, _, rfl, h, ht, fun b B ρ' e hb => ih b e.refl (hk b B ρ' e hb) (fun ρ'' x y e' => hf ρ'' x y (e.trans e'))⟩
   · exact .inr fun b => Dead.bind (h b)
 | shape r k ih =>
   rintro S ρ hg (⟨R, K, rfl, h, hk⟩ | h) hf
   · exact .inl ⟨R, _, rfl, h, fun s s' hs => (hk s s' hs).imp (fun q => ih s hg q hf) Dead.bind⟩
   · exact .inr fun s => Dead.bind (h s)
 | freeze a n k _ => rintro S ρ hg h; exact h.elim
 | frozen a k _ => rintro S ρ hg h _ b; exact Dead.bind (h b)
 | getObj r k ih => rintro S ρ hg ⟨R, K, rfl, h, hk⟩ hf; exact ⟨R, _, rfl, h, fun o O ho hr => ih o hg (hk o O ho hr) hf⟩
 | setObj r o k ih => rintro S ρ hg ⟨R, O, K, rfl, h, ho, hi, hk⟩ hf; exact ⟨R, O, _, rfl, h, ho, hi, ih hg hk hf⟩
 | choose q k ih =>
   rintro S ρ hg (⟨K, rfl, hk⟩ | h) hf
   · exact .inl ⟨_, rfl, fun n => ih n hg (hk n) hf⟩
   · exact .inr fun n => Dead.bind (h n)
 | sys c k _ => rintro S ρ hg h _ r; exact Dead.bind (h r)
 | program k ih =>
   rintro S ρ hg (⟨K, rfl, hk⟩ | h) hf
   · exact .inl ⟨_, rfl, ih P hg hk hf⟩
   · exact .inr (Dead.bind h)
 | mark m k ih =>
   rintro S ρ hg (⟨K, rfl, hm, hk⟩ | h) hf
   · exact .inl ⟨_, rfl, hm, ih hg hk hf⟩
   · exact .inr (Dead.bind h)
 | halt h => intro S ρ _ q _; exact q
theorem SR.dead {RA : Rho → α → α → Prop} : ∀ {s : Sem α}, Dead P s → ∀ {ρ : Rho} {S : Sem α}, SR P ok RA s ρ S := by
 intro s h ρ S
 cases s with
 | new o k => exact .inr h
 | shape r k => exact .inr h
 | choose q k => exact .inr h
 | program k => exact .inr h
 | mark m k => exact .inr h
 | frozen a k => exact h
 | sys c k => exact h
 | halt q => exact h
 | _ => exact h.elim
end
end Go.Proofs.YtajnfkmkombajabDoor
