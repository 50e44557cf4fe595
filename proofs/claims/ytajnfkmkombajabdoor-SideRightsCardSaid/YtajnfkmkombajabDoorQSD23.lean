/-
  The functions that are lifted into a company: plain Go code, or the model's own; a closed check.
  Contracts of errors.Is at sentinels of errors.New's make: lines of the worked proof SentryIs, turned to this program. 13: how many package-level variables the dump has (by-name's 'g' rows); 405: the fuel of Go.method in the walk's goal.
  What a call leaves as it was, but for some blocks; blocks of numbers. No program in sight.
  Contracts of errors.As at a target **api.Fault: lines of the worked example ToyasAs, turned to this program.
  What an error value is, by its number and place.
-/
import Derived.Test.YtajnfkmkombajabDoorQSD08
import Derived.Test.YtajnfkmkombajabDoorQSD07
import Derived.Test.YtajnfkmkombajabDoorProg
import Derived.Test.YtajnfkmkombajabDoorChecked
import Derived.Test.YtajnfkmkombajabDoorQSD22
import Derived.WalkKit
import Derived.LaidEql
import Derived.Stop.Asserts
import Derived.RowKitTokens
import Derived.OneCell
set_option linter.unusedVariables false
set_option linter.unusedSimpArgs false
namespace Go.Proofs.YtajnfkmkombajabDoor
open Go Go.Conc
def goL : List Nat := [43, 44, 45, 47, 48, 49, 50, 51, 52, 61, 64, 65, 67, 100, 101, 112, 119, 120, 121, 122, 126, 128, 129, 130, 131, 132, 137, 139, 140, 143, 148, 149, 152, 153, 160, 164, 165, 235]
def natL : List Nat := [157, 158, 159, 163, 182, 181, 230, 231, 237, 240, 241, 242, 243]
def goodS (f : FuncId) : Bool := goL.contains f || natL.contains f
def glS (g : Nat) : Bool := decide (g < 11) || g == 13
def GlS : Gs := ⟨glS, true⟩
noncomputable def goodB (f : Nat) : Bool := match Tryd.prog.funcs[f]? with
 | some fn => !(fn.name == "runtime.NumGoroutine") && (match fn.body with | some b => okCode Tryd.prog goodS GlS b | none => false)
 | none => false
set_option maxRecDepth 100000 in
theorem go_all : goL.all goodB = true := by kernel_rfl
theorem globals_sz : Tryd.prog.globals.size = 13 := by kernel_rfl
theorem gl_GN : GlS.gl Tryd.prog.globals.size = true := by rw [globals_sz]; kernel_rfl
theorem zeros_all : Tryd.prog.types.all zeroListed = true := by kernel_rfl
theorem nat_fvalueOf : Native Tryd.prog goodS GlS 157 := native_valueOf gl_GN Tryd.func157 (by kernel_rfl) (by kernel_rfl) (by kernel_rfl) (by kernel_rfl)
theorem nat_fvtype : Native Tryd.prog goodS GlS 158 := native_vtype gl_GN Tryd.func158 (by kernel_rfl) (by kernel_rfl) (by kernel_rfl) (by kernel_rfl)
theorem nat_fisNil : Native Tryd.prog goodS GlS 159 := native_isNil gl_GN Tryd.func159 (by kernel_rfl) (by kernel_rfl) (by kernel_rfl) (by kernel_rfl)
theorem nat_ftypeOf : Native Tryd.prog goodS GlS 163 := native_typeOf gl_GN Tryd.func163 (by kernel_rfl) (by kernel_rfl) (by kernel_rfl) (by kernel_rfl)
theorem nat_fset : Native Tryd.prog goodS GlS 182 := native_set gl_GN Tryd.func182 (by kernel_rfl) (by kernel_rfl) (by kernel_rfl) (by kernel_rfl)
theorem nat_fvelem : Native Tryd.prog goodS GlS 181 := native_velem gl_GN Tryd.func181 (by kernel_rfl) (by kernel_rfl) (by kernel_rfl) (by kernel_rfl)
theorem nat_flost : Native Tryd.prog goodS GlS 230 := native_lost Tryd.func230 (by kernel_rfl) (by kernel_rfl) (by kernel_rfl) (by kernel_rfl) (by kernel_rfl)
theorem nat_fkind : Native Tryd.prog goodS GlS 231 := native_kind gl_GN Tryd.func231 (by kernel_rfl) (by kernel_rfl) (by kernel_rfl) (by kernel_rfl)
theorem nat_fvkind : Native Tryd.prog goodS GlS 237 := native_vkind gl_GN Tryd.func237 (by kernel_rfl) (by kernel_rfl) (by kernel_rfl) (by kernel_rfl)
theorem nat_fassignable : Native Tryd.prog goodS GlS 240 := native_assignable gl_GN Tryd.func240 (by kernel_rfl) (by kernel_rfl) (by kernel_rfl) (by kernel_rfl)
theorem nat_fcomparable : Native Tryd.prog goodS GlS 241 := native_comparable gl_GN Tryd.func241 (by kernel_rfl) (by kernel_rfl) (by kernel_rfl) (by kernel_rfl)
theorem nat_felem : Native Tryd.prog goodS GlS 242 := native_elem gl_GN Tryd.func242 (by kernel_rfl) (by kernel_rfl) (by kernel_rfl) (by kernel_rfl)
theorem nat_fimplements : Native Tryd.prog goodS GlS 243 := native_implements gl_GN Tryd.func243 (by kernel_rfl) (by kernel_rfl) (by kernel_rfl) (by kernel_rfl)
set_option maxRecDepth 100000 in
theorem goodP : GoodP Tryd.prog goodS GlS where
 fns := fun f hf => by
   rcases Bool.or_eq_true _ _ |>.mp hf with h | h
   · left
     have := List.all_eq_true.1 go_all f (List.contains_iff_mem.1 h)
     unfold goodB at this
     cases hfn : Tryd.prog.funcs[f]? with
     | none => rw [hfn] at this; cases this
     | some fn =>
       rw [hfn] at this
       simp only [Bool.and_eq_true, Bool.not_eq_true'] at this
       cases hb : fn.body with
       | none => rw [hb] at this; cases this.2
       | some b => rw [hb] at this; exact ⟨fn, b, rfl, this.1, hb, this.2⟩
   · right
     have hm : f ∈ natL := List.contains_iff_mem.1 h
     simp only [natL, List.mem_cons, List.not_mem_nil, or_false] at hm
     rcases hm with rfl | rfl | rfl | rfl | rfl | rfl | rfl | rfl | rfl | rfl | rfl | rfl | rfl
     · exact nat_fvalueOf
     · exact nat_fvtype
     · exact nat_fisNil
     · exact nat_ftypeOf
     · exact nat_fset
     · exact nat_fvelem
     · exact nat_flost
     · exact nat_fkind
     · exact nat_fvkind
     · exact nat_fassignable
     · exact nat_fcomparable
     · exact nat_felem
     · exact nat_fimplements
 zero := zero_ok zeros_all _
 size := size_ok zeros_all
end Go.Proofs.YtajnfkmkombajabDoor
namespace Go.Proofs.YtajnfkmkombajabDoor
open Go.RowKit Go.Extern.Stop Go.Stop Go.Extern
theorem Tryd.isTypeOf (v : Value) (w : World) : (Extern.ReflectliteType.typeOf #[.iface 273 v]).run Tryd.prog w = .ok (.iface 228 (.agg #[.pointer (some ⟨13, 273, none⟩)])) w := by kernel_rfl
def compF (t : TypeId) : Sem Value := do Extern.Rtype.noPackHeld "Comparable" t; pure (.bool (← typeInfo t).comparable)
theorem Tryd.isComparable (w : World) : ((Extern.ReflectliteType.method compF) #[.agg #[.pointer (some ⟨13, 273, none⟩)]]).run Tryd.prog w = .ok (.bool true) w := by kernel_rfl
theorem Tryd.isMethodComparable (v : Value) (w : World) : (Go.method 405 228 v "Comparable").run Tryd.prog w = .ok (241, v) w := by kernel_rfl
theorem Tryd.isComp : (Tryd.prog.info? 273).map (·.comparable) = some true := by kernel_rfl
theorem Tryd.isSize : (Tryd.prog.info? 293).map (·.size) = some 1 := by kernel_rfl
theorem Tryd.noIsE (v : Value) (xT : TypeId) (w : World) : (Instr.typeAssert (.iface 273 v) xT 242 true).run Tryd.prog w = .ok (.tuple #[.nilIface, .bool false]) w := run_typeAssert_lacksB Tryd.underlying242 (by kernel_rfl) (by kernel_rfl) v xT w
theorem Tryd.noUnwrapE (v : Value) (xT : TypeId) (w : World) : (Instr.typeAssert (.iface 273 v) xT 235 true).run Tryd.prog w = .ok (.tuple #[.nilIface, .bool false]) w := run_typeAssert_lacksB Tryd.underlying235 (by kernel_rfl) (by kernel_rfl) v xT w
theorem Tryd.noUnwrapsE (v : Value) (xT : TypeId) (w : World) : (Instr.typeAssert (.iface 273 v) xT 237 true).run Tryd.prog w = .ok (.tuple #[.nilIface, .bool false]) w := run_typeAssert_lacksB Tryd.underlying237 (by kernel_rfl) (by kernel_rfl) v xT w
theorem Tryd.noIsF (v : Value) (xT : TypeId) (w : World) : (Instr.typeAssert (.iface 134 v) xT 242 true).run Tryd.prog w = .ok (.tuple #[.nilIface, .bool false]) w := run_typeAssert_lacksB Tryd.underlying242 (by kernel_rfl) (by kernel_rfl) v xT w
theorem Tryd.hasUnwrapF (v : Value) (xT : TypeId) (w : World) : (Instr.typeAssert (.iface 134 v) xT 235 true).run Tryd.prog w = .ok (.tuple #[.iface 134 v, .bool true]) w := run_typeAssert_hasB Tryd.underlying235 (by kernel_rfl) v xT w
theorem Tryd.methodUnwrap (v : Value) (w : World) : (Go.method 405 134 v "Unwrap").run Tryd.prog w = .ok (235, v) w := by kernel_rfl
set_option maxRecDepth 8000 in
theorem is_same (a : Addr) (w : World) :
   Calls Tryd.prog 148 #[.iface 273 (.pointer (some a)), .iface 273 (.pointer (some a))] w fun e w' => e = .returned (.bool true) ∧ w' = w := by
 obtain ⟨i, hi, hcmp⟩ := Option.map_eq_some_iff.1 Tryd.isComp
 obtain ⟨j, hj, hjs⟩ := Option.map_eq_some_iff.1 Tryd.isSize
 have h8 := @run_callFunc_extern Tryd.prog 163 _ Extern.ReflectliteType.typeOf Tryd.func163 (by kernel_rfl) (by kernel_rfl) (by kernel_rfl) (by kernel_rfl)
 have h32 := @run_callFunc_extern Tryd.prog 241 _ (Extern.ReflectliteType.method compF) Tryd.func241 (by kernel_rfl) (by kernel_rfl) (by kernel_rfl) (by kernel_rfl)
 have tT := Tryd.isTypeOf
 have cT := Tryd.isComparable
 have mR := Tryd.isMethodComparable
 have heq := run_eql_iface_ptr_same (P := Tryd.prog) w a Tryd.underlying33 Tryd.underlying273 hi hcmp hj
 go_enter Tryd.func148, Tryd.ntmps148
 go_wp2
 refine wp_loop_rounds 1 ?_
 rw [rounds_succ]
 go_wp2
 go_ret
 exact ⟨rfl, rfl⟩
set_option maxRecDepth 8000 in
theorem is_other (a b : Addr) (ca cb : Array Value) (ta tb : TypeId) (w : World) (hne : a ≠ b) (ha : w.heap[a.block]? = some (.cells ca ta (0, 0))) (hb : w.heap[b.block]? = some (.cells cb tb (0, 0))) :
   Calls Tryd.prog 148 #[.iface 273 (.pointer (some a)), .iface 273 (.pointer (some b))] w fun e w' => e = .returned (.bool false) ∧ w' = w := by
 obtain ⟨i, hi, hcmp⟩ := Option.map_eq_some_iff.1 Tryd.isComp
 obtain ⟨j, hj, hjs⟩ := Option.map_eq_some_iff.1 Tryd.isSize
 have h8 := @run_callFunc_extern Tryd.prog 163 _ Extern.ReflectliteType.typeOf Tryd.func163 (by kernel_rfl) (by kernel_rfl) (by kernel_rfl) (by kernel_rfl)
 have h32 := @run_callFunc_extern Tryd.prog 241 _ (Extern.ReflectliteType.method compF) Tryd.func241 (by kernel_rfl) (by kernel_rfl) (by kernel_rfl) (by kernel_rfl)
 have tT := Tryd.isTypeOf
 have cT := Tryd.isComparable
 have mR := Tryd.isMethodComparable
 have nE := Tryd.noIsE
 have uE := Tryd.noUnwrapE
 have vE := Tryd.noUnwrapsE
 have heq := run_eql_iface_ptr_other (P := Tryd.prog) w Tryd.underlying33 Tryd.underlying273 hi hcmp hj (by rw [hjs]; decide) hne ha hb
 go_enter Tryd.func148, Tryd.ntmps148
 go_wp2
 refine wp_loop_rounds 1 ?_
 rw [rounds_succ]
 go_wp2
 go_ret
 exact ⟨rfl, rfl⟩
set_option maxRecDepth 8000 in
theorem is_fault_same (pb po : Nat) (b : Addr) (w : World) (h1 : w.cell? ⟨pb, po + 1, none⟩ = some (.iface 273 (.pointer (some b)))) :
   Calls Tryd.prog 148 #[.iface 134 (.pointer (some ⟨pb, po, none⟩)), .iface 273 (.pointer (some b))] w fun e w' => e = .returned (.bool true) ∧ w' = w := by
 obtain ⟨i, hi, hcmp⟩ := Option.map_eq_some_iff.1 Tryd.isComp
 obtain ⟨j, hj, hjs⟩ := Option.map_eq_some_iff.1 Tryd.isSize
 have h8 := @run_callFunc_extern Tryd.prog 163 _ Extern.ReflectliteType.typeOf Tryd.func163 (by kernel_rfl) (by kernel_rfl) (by kernel_rfl) (by kernel_rfl)
 have h32 := @run_callFunc_extern Tryd.prog 241 _ (Extern.ReflectliteType.method compF) Tryd.func241 (by kernel_rfl) (by kernel_rfl) (by kernel_rfl) (by kernel_rfl)
 have tT := Tryd.isTypeOf
 have cT := Tryd.isComparable
 have mR := Tryd.isMethodComparable
 have nE := Tryd.noIsE
 have uE := Tryd.noUnwrapE
 have vE := Tryd.noUnwrapsE
 have nF := Tryd.noIsF
 have uF := Tryd.hasUnwrapF
 have mU := Tryd.methodUnwrap
 have heq := run_eql_iface_ptr_same (P := Tryd.prog) w b Tryd.underlying33 Tryd.underlying273 hi hcmp hj
 have hty := run_eql_iface_types (P := Tryd.prog) 134 273 (.pointer (some ⟨pb, po, none⟩)) (.pointer (some b)) Tryd.underlying33 (by decide) w
 go_enter Tryd.func148, Tryd.ntmps148
 go_wp2
 refine wp_loop_rounds 2 ?_
 rw [rounds_succ]
 go_wp2
 rw [rounds_succ]
 go_wp2
 go_ret
 exact ⟨rfl, rfl⟩
set_option maxRecDepth 8000 in
theorem is_fault_other (pb po : Nat) (b a : Addr) (ca cb : Array Value) (ta tb : TypeId) (w : World) (h1 : w.cell? ⟨pb, po + 1, none⟩ = some (.iface 273 (.pointer (some a)))) (hne : a ≠ b) (ha : w.heap[a.block]? = some (.cells ca ta (0, 0))) (hb : w.heap[b.block]? = some (.cells cb tb (0, 0))) :
   Calls Tryd.prog 148 #[.iface 134 (.pointer (some ⟨pb, po, none⟩)), .iface 273 (.pointer (some b))] w fun e w' => e = .returned (.bool false) ∧ w' = w := by
 obtain ⟨i, hi, hcmp⟩ := Option.map_eq_some_iff.1 Tryd.isComp
 obtain ⟨j, hj, hjs⟩ := Option.map_eq_some_iff.1 Tryd.isSize
 have h8 := @run_callFunc_extern Tryd.prog 163 _ Extern.ReflectliteType.typeOf Tryd.func163 (by kernel_rfl) (by kernel_rfl) (by kernel_rfl) (by kernel_rfl)
 have h32 := @run_callFunc_extern Tryd.prog 241 _ (Extern.ReflectliteType.method compF) Tryd.func241 (by kernel_rfl) (by kernel_rfl) (by kernel_rfl) (by kernel_rfl)
 have tT := Tryd.isTypeOf
 have cT := Tryd.isComparable
 have mR := Tryd.isMethodComparable
 have nE := Tryd.noIsE
 have uE := Tryd.noUnwrapE
 have vE := Tryd.noUnwrapsE
 have nF := Tryd.noIsF
 have uF := Tryd.hasUnwrapF
 have mU := Tryd.methodUnwrap
 have heq := run_eql_iface_ptr_other (P := Tryd.prog) w Tryd.underlying33 Tryd.underlying273 hi hcmp hj (by rw [hjs]; decide) hne ha hb
 have hty := run_eql_iface_types (P := Tryd.prog) 134 273 (.pointer (some ⟨pb, po, none⟩)) (.pointer (some b)) Tryd.underlying33 (by decide) w
 go_enter Tryd.func148, Tryd.ntmps148
 go_wp2
 refine wp_loop_rounds 2 ?_
 rw [rounds_succ]
 go_wp2
 rw [rounds_succ]
 go_wp2
 go_ret
 exact ⟨rfl, rfl⟩
end Go.Proofs.YtajnfkmkombajabDoor
namespace Go.Proofs.YtajnfkmkombajabDoor
open Go.RowKit
structure Keep (F : Nat → Prop) (w w' : World) : Prop where
 os : w'.os = w.os
 tape : w'.tape = w.tape
 output : w'.output = w.output
 size : w.heap.size ≤ w'.heap.size
 block : ∀ k, k < w.heap.size → ¬ F k → w'.heap[k]? = w.heap[k]?
theorem Keep.refl (F : Nat → Prop) (w : World) : Keep F w w := ⟨rfl, rfl, rfl, Nat.le_refl _, fun _ _ _ => rfl⟩
theorem Keep.trans {F : Nat → Prop} {a b c : World} (h : Keep F a b) (k : Keep F b c) : Keep F a c :=
 ⟨k.os.trans h.os, k.tape.trans h.tape, k.output.trans h.output, Nat.le_trans h.size k.size, fun i hi hF => (k.block i (Nat.lt_of_lt_of_le hi h.size) hF).trans (h.block i hi hF)⟩
theorem Keep.andThen {F G : Nat → Prop} {a b c : World} (h : Keep F a b) (k : Keep G b c) (hG : ∀ i, G i → F i ∨ a.heap.size ≤ i) : Keep F a c :=
 ⟨k.os.trans h.os, k.tape.trans h.tape, k.output.trans h.output, Nat.le_trans h.size k.size, fun i hi hF => (k.block i (Nat.lt_of_lt_of_le hi h.size) (fun hg => (hG i hg).elim hF (by omega))).trans (h.block i hi hF)⟩
theorem Keep.mono {F G : Nat → Prop} {w w' : World} (h : Keep F w w') (hF : ∀ k, F k → G k) : Keep G w w' := ⟨h.os, h.tape, h.output, h.size, fun k hk hg => h.block k hk (fun hf => hg (hF k hf))⟩
theorem Keep.drew {F : Nat → Prop} {a w : World} (h : Keep F a w) : Keep F a w.drew := ⟨h.os, h.tape, h.output, h.size, h.block⟩
theorem Keep.drewN {F : Nat → Prop} {a w : World} (h : Keep F a w) (n : Nat) : Keep F a (w.drewN n) := ⟨h.os, h.tape, h.output, h.size, h.block⟩
theorem Keep.alloc {F : Nat → Prop} {a w : World} (h : Keep F a w) (o : Obj) : Keep F a (w.alloc o) :=
 ⟨h.os, h.tape, h.output, by have := h.size; simp; omega, fun k hk hF => by rw [Below.heap_alloc _ _ _ (Nat.lt_of_lt_of_le hk h.size)]; exact h.block k hk hF⟩
theorem Keep.setCell {F : Nat → Prop} {a w : World} (h : Keep F a w) {p : Addr} (hp : F p.block ∨ a.heap.size ≤ p.block) (u : Value) : Keep F a (w.setCell p u) :=
 ⟨h.os, h.tape, h.output, by have := h.size; simp [World.setCell]; exact this, fun k hk hF => by
   rw [Below.heap_setCell _ _ _ _ (by rintro rfl; exact hp.elim hF (by omega))]; exact h.block k hk hF⟩
theorem Keep.put {b o : Nat} {a w : World} (h : Keep (· = b) a w) (u : Value) : Keep (· = b) a (w.setCell ⟨b, o, none⟩ u) := h.setCell (p := ⟨b, o, none⟩) (.inl rfl) u
theorem Keep.grown {F : Nat → Prop} {a w w' : World} {row : Option Nat} (h : Keep F a w) (hg : w.grownBy w' row) (hr : ∀ k, row = some k → F k ∨ a.heap.size ≤ k) : Keep F a w' :=
 ⟨hg.os.trans h.os, hg.tape.trans h.tape, hg.output.trans h.output, Nat.le_trans h.size hg.size, fun k hk hF =>
   (hg.block k (Nat.lt_of_lt_of_le hk h.size) (fun e => (hr k e.symm).elim hF (by omega))).trans (h.block k hk hF)⟩
theorem Keep.of_below {F : Nat → Prop} {w w' : World} (h : Below w.heap.size w w') : Keep F w w' := ⟨h.os, h.tape, h.output, h.size, fun k hk _ => h.block k hk⟩
theorem Keep.below {F : Nat → Prop} {B : Nat} {w w' : World} (h : Keep F w w') (hB : B ≤ w.heap.size) (hF : ∀ k, F k → B ≤ k) : Below B w w' :=
 ⟨h.os, h.tape, h.output, h.size, fun k hk => h.block k (by omega) (fun hf => by have := hF k hf; omega)⟩
theorem Keep.after {F : Nat → Prop} {a b c : World} (h : Below a.heap.size a b) (k : Keep F b c) (hF : ∀ i, F i → a.heap.size ≤ i) : Below a.heap.size a c :=
 h.trans (k.below h.size hF)
theorem Keep.heap {F : Nat → Prop} {w w' : World} (h : Keep F w w') {k : Nat} {o : Obj} (hk : w.heap[k]? = some o) (hF : ¬ F k) : w'.heap[k]? = some o :=
 (h.block k (lt_of_block hk) hF).trans hk
theorem Keep.cell {F : Nat → Prop} {w w' : World} (h : Keep F w w') {p : Addr} (hp : p.block < w.heap.size) (hF : ¬ F p.block) : w'.cell? p = w.cell? p := World.cell?_of_block (w := w) (h.block p.block hp hF)
theorem Keep.frozen {F : Nat → Prop} {w w' : World} (h : Keep F w w') {p : Addr} (hp : p.block < w.heap.size) (hF : ¬ F p.block) : w'.frozen? p = w.frozen? p := World.frozen?_of_block (w := w) (h.block p.block hp hF)
theorem below_heap {B : Nat} {w w' : World} (h : Below B w w') {k : Nat} {o : Obj} (hk : w.heap[k]? = some o) (hB : k < B) : w'.heap[k]? = some o := (h.block k hB).trans hk
def RowAt (b : Nat) (T : TypeId) (vs : List Value) (w : World) : Prop := w.heap[b]? = some (.cells vs.toArray T (0, 0))
theorem RowAt.lt {b : Nat} {T : TypeId} {vs : List Value} {w : World} (h : RowAt b T vs w) : b < w.heap.size := lt_of_block h
theorem RowAt.cell {b : Nat} {T : TypeId} {vs : List Value} {w : World} (h : RowAt b T vs w) (i : Nat) : w.cell? ⟨b, i, none⟩ = vs[i]? := by
 unfold RowAt at h; simp [World.cell?, h]
theorem RowAt.frozen {b : Nat} {T : TypeId} {vs : List Value} {w : World} (h : RowAt b T vs w) (i : Nat) : w.frozen? ⟨b, i, none⟩ = false := by
 unfold RowAt at h; simp [World.frozen?, h]
theorem RowAt.drewN {b : Nat} {T : TypeId} {vs : List Value} {w : World} (h : RowAt b T vs w) (n : Nat) : RowAt b T vs (w.drewN n) := h
theorem RowAt.alloc {b : Nat} {T : TypeId} {vs : List Value} {w : World} (h : RowAt b T vs w) (o : Obj) : RowAt b T vs (w.alloc o) :=
 (Below.heap_alloc w o b h.lt).trans h
theorem RowAt.keep {F : Nat → Prop} {b : Nat} {T : TypeId} {vs : List Value} {w w' : World} (h : RowAt b T vs w) (k : Keep F w w') (hF : ¬ F b) : RowAt b T vs w' := k.heap h hF
theorem RowAt.below {B b : Nat} {T : TypeId} {vs : List Value} {w w' : World} (h : RowAt b T vs w) (k : Below B w w') (hB : b < B) : RowAt b T vs w' := below_heap k h hB
theorem RowAt.set {b : Nat} {T : TypeId} {vs : List Value} {w : World} (h : RowAt b T vs w) (i : Nat) (v : Value) : RowAt b T (vs.set i v) (w.setCell ⟨b, i, none⟩ v) := by
 have hlt := h.lt
 have h' : w.heap[b] = .cells vs.toArray T (0, 0) := by unfold RowAt at h; simpa [Array.getElem?_eq_getElem hlt] using h
 show (w.heap.modify b _)[b]? = _
 rw [Array.getElem?_eq_getElem (by simpa using hlt), Array.getElem_modify_self, h']
 simp
theorem RowAt.set_other {b : Nat} {T : TypeId} {vs : List Value} {w : World} (h : RowAt b T vs w) {p : Addr} (hp : p.block ≠ b) (v : Value) : RowAt b T vs (w.setCell p v) :=
 (Below.heap_setCell w p v b (fun e => hp e.symm)).trans h
theorem RowAt.new (w : World) (T : TypeId) (vs : List Value) : RowAt w.heap.size T vs (w.alloc (.cells vs.toArray T)) := heap_alloc_new w _
theorem RdI.of_rowAt {k : IntKind} {g : Nat} {T : TypeId} {zs : List Int} {w : World} (h : RowAt g T (zs.map (Value.int k)) w) (hm : zs.length ≤ maxLen) : RdI k w (some ⟨g, 0, none⟩) zs.length zs.length zs :=
 ⟨rfl, Nat.le_refl _, hm, fun h => (by cases h), fun i hi => ⟨g, 0, rfl, by rw [Nat.zero_add, h.cell, List.getElem?_map, List.getElem?_eq_getElem hi]; simp [hi]⟩⟩
end Go.Proofs.YtajnfkmkombajabDoor
namespace Go.Proofs.YtajnfkmkombajabDoor
open Go.RowKit Go.Extern.Stop Go.Stop Go.Extern
theorem Tryd.valueOfPP (t : Addr) (w : World) : (ReflectliteValue.unpack (.iface 168 (.pointer (some t)))).run Tryd.prog w
   = .ok (.agg #[.pointer (some ⟨13, 168, none⟩), .pointer (some ⟨w.heap.size, 0, none⟩), .int .u64 150]) (w.alloc (.cells #[.pointer (some t)] 168)) := by kernel_rfl
theorem Tryd.typePP (a : Addr) (w : World) : (ReflectliteValue.methodAny (ReflectliteValue.valueError "reflectlite.Value.Type" 0) (fun t _ _ _ => ReflectliteType.toType t) #[.agg #[.pointer (some ⟨13, 168, none⟩), .pointer (some a), .int .u64 150]]).run Tryd.prog w
   = .ok (.iface 228 (.agg #[.pointer (some ⟨13, 168, none⟩)])) w := by kernel_rfl
theorem Tryd.methodKind (h : Value) (w : World) : (Go.method 405 228 (.agg #[h]) "Kind").run Tryd.prog w = .ok (231, h) w := by kernel_rfl
theorem Tryd.kindPP (w : World) : ((ReflectliteType.abiMethod fun t => Functor.map (fun a : Nat => Value.int IntKind.u8 (a : Int)) (Rtype.kind t)) #[.pointer (some ⟨13, 168, none⟩)]).run Tryd.prog w = .ok (.int .u8 22) w := by kernel_rfl
theorem Tryd.kindP (w : World) : ((ReflectliteType.abiMethod fun t => Functor.map (fun a : Nat => Value.int IntKind.u8 (a : Int)) (Rtype.kind t)) #[.pointer (some ⟨13, 134, none⟩)]).run Tryd.prog w = .ok (.int .u8 22) w := by kernel_rfl
theorem rlm (z : Sem Value) (f : TypeId → Addr → Nat → Nat → Sem Value) (v : Value) :
   ReflectliteValue.method z f #[v] = (do match ← ReflectliteValue.parts v with | none => z | some (t, a, fl) => f t a fl (fl % 32)) := rfl
theorem Tryd.partsPP (a : Addr) (w : World) : (ReflectliteValue.parts (.agg #[.pointer (some ⟨13, 168, none⟩), .pointer (some a), .int .u64 150])).run Tryd.prog w = .ok (some (168, a, 150)) w := by kernel_rfl
theorem Tryd.isNilPP (a p : Addr) (W : World) (ha : W.cell? a = some (.pointer (some p))) :
   (ReflectliteValue.method (ReflectliteValue.valueError "reflectlite.Value.IsNil" 0) ReflectliteValue.isNil #[.agg #[.pointer (some ⟨13, 168, none⟩), .pointer (some a), .int .u64 150]]).run Tryd.prog W = .ok (.bool false) W := by
 rw [rlm]
 simp only [Sem.run_bind, Tryd.partsPP, Result.andThen]
 simp [ReflectliteValue.isNil, loadVar, isAgg, underlying, Tryd.underlying168, ha, Result.andThen]
theorem Tryd.methodElem (h : Value) (w : World) : (Go.method 405 228 (.agg #[h]) "Elem").run Tryd.prog w = .ok (242, .agg #[h]) w := by kernel_rfl
theorem Tryd.methodImplements (h : Value) (w : World) : (Go.method 405 228 (.agg #[h]) "Implements").run Tryd.prog w = .ok (243, .agg #[h]) w := by kernel_rfl
theorem Tryd.methodAssignableTo (h : Value) (w : World) : (Go.method 405 228 (.agg #[h]) "AssignableTo").run Tryd.prog w = .ok (240, .agg #[h]) w := by kernel_rfl
theorem Tryd.elemPP (w : World) : (ReflectliteType.method ReflectliteType.elem #[.agg #[.pointer (some ⟨13, 168, none⟩)]]).run Tryd.prog w = .ok (.iface 228 (.agg #[.pointer (some ⟨13, 134, none⟩)])) w := by kernel_rfl
theorem Tryd.implementsP (w : World) : (ReflectliteType.relation "Implements" ReflectliteType.implements_ #[.agg #[.pointer (some ⟨13, 134, none⟩)], .iface 228 (.agg #[.pointer (some ⟨13, 33, none⟩)])]).run Tryd.prog w = .ok (.bool true) w := by kernel_rfl
theorem Tryd.typeOfP (v : Value) (w : World) : (ReflectliteType.typeOf #[.iface 134 v]).run Tryd.prog w = .ok (.iface 228 (.agg #[.pointer (some ⟨13, 134, none⟩)])) w := by kernel_rfl
theorem Tryd.assignableP (w : World) : (ReflectliteType.relation "AssignableTo" ReflectliteType.assignableTo #[.agg #[.pointer (some ⟨13, 134, none⟩)], .iface 228 (.agg #[.pointer (some ⟨13, 134, none⟩)])]).run Tryd.prog w = .ok (.bool true) w := by kernel_rfl
theorem Tryd.assignableE (w : World) : (ReflectliteType.relation "AssignableTo" ReflectliteType.assignableTo #[.agg #[.pointer (some ⟨13, 273, none⟩)], .iface 228 (.agg #[.pointer (some ⟨13, 134, none⟩)])]).run Tryd.prog w = .ok (.bool false) w := by kernel_rfl
theorem Tryd.valueOfP (e : Addr) (w : World) : (ReflectliteValue.unpack (.iface 134 (.pointer (some e)))).run Tryd.prog w
   = .ok (.agg #[.pointer (some ⟨13, 134, none⟩), .pointer (some ⟨w.heap.size, 0, none⟩), .int .u64 150]) (w.alloc (.cells #[.pointer (some e)] 134)) := by kernel_rfl
theorem Tryd.elemOfPP (w : World) : (Rtype.elem? 168).run Tryd.prog w = .ok (some 134) w := by kernel_rfl
theorem Tryd.mkP (p : Addr) (w : World) : (ReflectliteValue.mk 134 p ReflectliteValue.flagAddr).run Tryd.prog w = .ok (.agg #[.pointer (some ⟨13, 134, none⟩), .pointer (some p), .int .u64 406]) w := by kernel_rfl
theorem Tryd.elemVPP (a p : Addr) (W : World) (ha : W.cell? a = some (.pointer (some p))) :
   (ReflectliteValue.method (ReflectliteValue.valueError "reflectlite.Value.Elem" 0) ReflectliteValue.elem #[.agg #[.pointer (some ⟨13, 168, none⟩), .pointer (some a), .int .u64 150]]).run Tryd.prog W
     = .ok (.agg #[.pointer (some ⟨13, 134, none⟩), .pointer (some p), .int .u64 406]) W := by
 rw [rlm]
 simp only [Sem.run_bind, Tryd.partsPP, Result.andThen]
 simp [ReflectliteValue.elem, loadVar, isAgg, underlying, Tryd.underlying168, ha, Result.andThen, Tryd.elemOfPP, Tryd.mkP]
theorem rls (v x : Value) : ReflectliteValue.set #[v, x] = (do
   let (some (dst, a, fl), some (src, b, _)) := (← ReflectliteValue.parts v, ← ReflectliteValue.parts x)
     | unsupported (.noEntry "extern/(internal/reflectlite.Value).Set.zeroValue")
   if fl / ReflectliteValue.flagAddr % 2 == 0 then unsupported (.noEntry "extern/(internal/reflectlite.Value).Set.unaddressable")
   let val ← loadVar src b
   if ← Rtype.directlyAssignable dst src then storeVar dst a val
   else if ← Rtype.implements dst src then
     if (← Rtype.kind src) == 20 then
       match val with
       | .nilIface => unsupported (.noEntry "extern/reflectlite: a nil value of one interface type handed on as a value of another")
       | _ => storeVar dst a val
     else storeVar dst a (.iface src val)
   else panicString ("reflectlite.Set: value of type " ++ (← Rtype.spelt src) ++ " is not assignable to type " ++ (← Rtype.spelt dst))
   pure (.tuple #[])) := rfl
theorem Tryd.partsPa (a : Addr) (w : World) : (ReflectliteValue.parts (.agg #[.pointer (some ⟨13, 134, none⟩), .pointer (some a), .int .u64 406])).run Tryd.prog w = .ok (some (134, a, 406)) w := by kernel_rfl
theorem Tryd.partsP (a : Addr) (w : World) : (ReflectliteValue.parts (.agg #[.pointer (some ⟨13, 134, none⟩), .pointer (some a), .int .u64 150])).run Tryd.prog w = .ok (some (134, a, 150)) w := by kernel_rfl
theorem Tryd.directP (w : World) : (Rtype.directlyAssignable 134 134).run Tryd.prog w = .ok true w := by kernel_rfl
theorem Tryd.setP (ta b e : Addr) (old : Value) (W : World) (hb : W.cell? b = some (.pointer (some e))) (ht : W.cell? ta = some old) (hf : W.frozen? ta = false) :
   (ReflectliteValue.set #[.agg #[.pointer (some ⟨13, 134, none⟩), .pointer (some ta), .int .u64 406], .agg #[.pointer (some ⟨13, 134, none⟩), .pointer (some b), .int .u64 150]]).run Tryd.prog W
     = .ok (.tuple #[]) (W.setCell ta (.pointer (some e))) := by
 rw [rls]
 simp only [Sem.run_bind, Tryd.partsPa, Tryd.partsP, Result.andThen]
 simp [ReflectliteValue.flagAddr, loadVar, isAgg, underlying, Tryd.underlying134, hb, Result.andThen, Tryd.directP, storeVar, Value.cells, storeCells, Addr.add]
 rw [run_store Tryd.prog W ta _ _ (by rfl)]
 simp [ht, hf]
theorem Tryd.noAsE (v : Value) (xT : TypeId) (w : World) : (Instr.typeAssert (.iface 273 v) xT 232 true).run Tryd.prog w = .ok (.tuple #[.nilIface, .bool false]) w := run_typeAssert_lacksB Tryd.underlying232 (by kernel_rfl) (by kernel_rfl) v xT w
def ErrType (w : World) : Prop := w.cell? ⟨10, 0, none⟩ = some (.iface 228 (.agg #[.pointer (some ⟨13, 33, none⟩)]))
theorem ErrType.below {w w' : World} (h : ErrType w) (hb : Below w.heap.size w w') : ErrType w' := by
 unfold ErrType at h ⊢
 rw [hb.cell (p := ⟨10, 0, none⟩) (World.block_lt_of_cell? w _ h)]; exact h
set_option maxHeartbeats 4000000 in
set_option maxRecDepth 8000 in
theorem as_hit (e t : Addr) (old : Value) (w : World) (hg : ErrType w) (ht0 : w.cell? t = some old) (hf0 : w.frozen? t = false) :
   Calls Tryd.prog 140 #[.iface 134 (.pointer (some e)), .iface 168 (.pointer (some t))] w fun ev w' => ev = .returned (.bool true) ∧ Keep (· = t.block) w w' ∧ w'.cell? t = some (.pointer (some e)) := by
 have h6 := @run_callFunc_extern Tryd.prog 157 _ (fun args => ReflectliteValue.unpack (args.getD 0 (.tuple #[]))) Tryd.func157 (by kernel_rfl) (by kernel_rfl) (by kernel_rfl) (by kernel_rfl)
 have h7 := @run_callFunc_extern Tryd.prog 158 _ (ReflectliteValue.methodAny (ReflectliteValue.valueError "reflectlite.Value.Type" 0) (fun t _ _ _ => ReflectliteType.toType t)) Tryd.func158 (by kernel_rfl) (by kernel_rfl) (by kernel_rfl) (by kernel_rfl)
 have h8 := @run_callFunc_extern Tryd.prog 159 _ (ReflectliteValue.method (ReflectliteValue.valueError "reflectlite.Value.IsNil" 0) ReflectliteValue.isNil) Tryd.func159 (by kernel_rfl) (by kernel_rfl) (by kernel_rfl) (by kernel_rfl)
 have h27 := @run_callFunc_extern Tryd.prog 231 _ (ReflectliteType.abiMethod fun t => do pure (.int .u8 (← Rtype.kind t))) Tryd.func231 (by kernel_rfl) (by kernel_rfl) (by kernel_rfl) (by kernel_rfl)
 have h37 := @run_callFunc_extern Tryd.prog 242 _ (ReflectliteType.method ReflectliteType.elem) Tryd.func242 (by kernel_rfl) (by kernel_rfl) (by kernel_rfl) (by kernel_rfl)
 have h38 := @run_callFunc_extern Tryd.prog 243 _ (ReflectliteType.relation "Implements" ReflectliteType.implements_) Tryd.func243 (by kernel_rfl) (by kernel_rfl) (by kernel_rfl) (by kernel_rfl)
 have h10 := @run_callFunc_extern Tryd.prog 163 _ ReflectliteType.typeOf Tryd.func163 (by kernel_rfl) (by kernel_rfl) (by kernel_rfl) (by kernel_rfl)
 have h35 := @run_callFunc_extern Tryd.prog 240 _ (ReflectliteType.relation "AssignableTo" ReflectliteType.assignableTo) Tryd.func240 (by kernel_rfl) (by kernel_rfl) (by kernel_rfl) (by kernel_rfl)
 have h11 := @run_callFunc_extern Tryd.prog 181 _ (ReflectliteValue.method (ReflectliteValue.valueError "reflectlite.Value.Elem" 0) ReflectliteValue.elem) Tryd.func181 (by kernel_rfl) (by kernel_rfl) (by kernel_rfl) (by kernel_rfl)
 have h12 := @run_callFunc_extern Tryd.prog 182 _ ReflectliteValue.set Tryd.func182 (by kernel_rfl) (by kernel_rfl) (by kernel_rfl) (by kernel_rfl)
 have tO := Tryd.typeOfP
 have mA := Tryd.methodAssignableTo
 have a25 := Tryd.assignableP
 have v25 := Tryd.valueOfP
 have f6 := Tryd.valueOfPP
 have f7 := Tryd.typePP
 have mK := Tryd.methodKind
 have mE := Tryd.methodElem
 have mI := Tryd.methodImplements
 have k27 := Tryd.kindPP
 have k25 := Tryd.kindP
 have e27 := Tryd.elemPP
 have i25 := Tryd.implementsP
 unfold ErrType at hg
 have hlt := World.block_lt_of_cell? w _ hg
 have hgn : 10 < w.heap.size := hlt
 clear hlt
 have n8 := Tryd.isNilPP ⟨w.heap.size, 0, none⟩ t ((w.alloc (.cells #[.pointer (some t)] 168)).alloc (.cells #[.pointer (some ⟨13, 168, none⟩), .pointer (some ⟨w.heap.size, 0, none⟩), .int .u64 150] 205)) (by simp)
 have hg2 : ((w.alloc (.cells #[.pointer (some t)] 168)).alloc (.cells #[.pointer (some ⟨13, 168, none⟩), .pointer (some ⟨w.heap.size, 0, none⟩), .int .u64 150] 205)).cell? ⟨10, 0, none⟩ = some (.iface 228 (.agg #[.pointer (some ⟨13, 33, none⟩)])) := by
   rw [World.cell?_alloc_lt _ _ ⟨10, 0, none⟩ (by simp; omega), World.cell?_alloc_lt _ _ ⟨10, 0, none⟩ hgn]; exact hg
 have htl : t.block < w.heap.size := World.block_lt_of_cell? w _ ht0
 have el := Tryd.elemVPP ⟨w.heap.size, 0, none⟩ t (((w.alloc (.cells #[.pointer (some t)] 168)).alloc (.cells #[.pointer (some ⟨13, 168, none⟩), .pointer (some ⟨w.heap.size, 0, none⟩), .int .u64 150] 205)).alloc (.cells #[.pointer (some ⟨13, 168, none⟩), .pointer (some ⟨w.heap.size, 0, none⟩), .int .u64 150] 205)) (by rw [World.cell?_alloc_lt _ _ ⟨w.heap.size, 0, none⟩ (by simp; omega)]; simp)
 have ht4 : ((((w.alloc (.cells #[.pointer (some t)] 168)).alloc (.cells #[.pointer (some ⟨13, 168, none⟩), .pointer (some ⟨w.heap.size, 0, none⟩), .int .u64 150] 205)).alloc (.cells #[.pointer (some ⟨13, 168, none⟩), .pointer (some ⟨w.heap.size, 0, none⟩), .int .u64 150] 205)).alloc (.cells #[.pointer (some e)] 134)).cell? t = some old := by
   rw [World.cell?_alloc_lt _ _ t (by simp; omega), World.cell?_alloc_lt _ _ t (by simp; omega), World.cell?_alloc_lt _ _ t (by simp; omega), World.cell?_alloc_lt _ _ t htl]; exact ht0
 have st := Tryd.setP t ⟨w.heap.size + 1 + 1 + 1, 0, none⟩ e old ((((w.alloc (.cells #[.pointer (some t)] 168)).alloc (.cells #[.pointer (some ⟨13, 168, none⟩), .pointer (some ⟨w.heap.size, 0, none⟩), .int .u64 150] 205)).alloc (.cells #[.pointer (some ⟨13, 168, none⟩), .pointer (some ⟨w.heap.size, 0, none⟩), .int .u64 150] 205)).alloc (.cells #[.pointer (some e)] 134))
   (by rw [World.cell?_alloc_at _ _ _ _ (by simp)]; rfl) ht4
   (by rw [World.frozen?_alloc_old _ _ t (by simp; omega), World.frozen?_alloc_old _ _ t (by simp; omega), World.frozen?_alloc_old _ _ t (by simp; omega), World.frozen?_alloc_old _ _ t (Nat.ne_of_lt htl)]; exact hf0)
 have HT4 := Lib.hid ht4; clear ht4
 go_enter Tryd.func140, Tryd.ntmps140
 go_wp2
 refine wp_loop_rounds 1 ?_
 rw [rounds_succ]
 go_wp2
 go_ret
 exact ⟨rfl, Keep.setCell (F := fun x => x = t.block) (((((Keep.refl _ _).alloc _).alloc _).alloc _).alloc _) (.inl rfl) _, World.cell?_setCell_same _ _ _ HT4.out⟩
set_option maxHeartbeats 4000000 in
set_option maxRecDepth 8000 in
theorem as_miss (a : Value) (t : Addr) (w : World) (hg : ErrType w) :
   Calls Tryd.prog 140 #[.iface 273 a, .iface 168 (.pointer (some t))] w fun ev w' => ev = .returned (.bool false) ∧ Below w.heap.size w w' := by
 have h6 := @run_callFunc_extern Tryd.prog 157 _ (fun args => ReflectliteValue.unpack (args.getD 0 (.tuple #[]))) Tryd.func157 (by kernel_rfl) (by kernel_rfl) (by kernel_rfl) (by kernel_rfl)
 have h7 := @run_callFunc_extern Tryd.prog 158 _ (ReflectliteValue.methodAny (ReflectliteValue.valueError "reflectlite.Value.Type" 0) (fun t _ _ _ => ReflectliteType.toType t)) Tryd.func158 (by kernel_rfl) (by kernel_rfl) (by kernel_rfl) (by kernel_rfl)
 have h8 := @run_callFunc_extern Tryd.prog 159 _ (ReflectliteValue.method (ReflectliteValue.valueError "reflectlite.Value.IsNil" 0) ReflectliteValue.isNil) Tryd.func159 (by kernel_rfl) (by kernel_rfl) (by kernel_rfl) (by kernel_rfl)
 have h27 := @run_callFunc_extern Tryd.prog 231 _ (ReflectliteType.abiMethod fun t => do pure (.int .u8 (← Rtype.kind t))) Tryd.func231 (by kernel_rfl) (by kernel_rfl) (by kernel_rfl) (by kernel_rfl)
 have h37 := @run_callFunc_extern Tryd.prog 242 _ (ReflectliteType.method ReflectliteType.elem) Tryd.func242 (by kernel_rfl) (by kernel_rfl) (by kernel_rfl) (by kernel_rfl)
 have h38 := @run_callFunc_extern Tryd.prog 243 _ (ReflectliteType.relation "Implements" ReflectliteType.implements_) Tryd.func243 (by kernel_rfl) (by kernel_rfl) (by kernel_rfl) (by kernel_rfl)
 have h10 := @run_callFunc_extern Tryd.prog 163 _ ReflectliteType.typeOf Tryd.func163 (by kernel_rfl) (by kernel_rfl) (by kernel_rfl) (by kernel_rfl)
 have h35 := @run_callFunc_extern Tryd.prog 240 _ (ReflectliteType.relation "AssignableTo" ReflectliteType.assignableTo) Tryd.func240 (by kernel_rfl) (by kernel_rfl) (by kernel_rfl) (by kernel_rfl)
 have tO := Tryd.isTypeOf
 have mA := Tryd.methodAssignableTo
 have a25 := Tryd.assignableE
 have f6 := Tryd.valueOfPP
 have f7 := Tryd.typePP
 have mK := Tryd.methodKind
 have mE := Tryd.methodElem
 have mI := Tryd.methodImplements
 have k27 := Tryd.kindPP
 have k25 := Tryd.kindP
 have e27 := Tryd.elemPP
 have i25 := Tryd.implementsP
 have nA := Tryd.noAsE
 have uE := Tryd.noUnwrapE
 have vE := Tryd.noUnwrapsE
 unfold ErrType at hg
 have hlt := World.block_lt_of_cell? w _ hg
 have hgn : 10 < w.heap.size := hlt
 clear hlt
 have n8 := Tryd.isNilPP ⟨w.heap.size, 0, none⟩ t ((w.alloc (.cells #[.pointer (some t)] 168)).alloc (.cells #[.pointer (some ⟨13, 168, none⟩), .pointer (some ⟨w.heap.size, 0, none⟩), .int .u64 150] 205)) (by simp)
 have hg2 : ((w.alloc (.cells #[.pointer (some t)] 168)).alloc (.cells #[.pointer (some ⟨13, 168, none⟩), .pointer (some ⟨w.heap.size, 0, none⟩), .int .u64 150] 205)).cell? ⟨10, 0, none⟩ = some (.iface 228 (.agg #[.pointer (some ⟨13, 33, none⟩)])) := by
   rw [World.cell?_alloc_lt _ _ ⟨10, 0, none⟩ (by simp; omega), World.cell?_alloc_lt _ _ ⟨10, 0, none⟩ hgn]; exact hg
 go_enter Tryd.func140, Tryd.ntmps140
 go_wp2
 refine wp_loop_rounds 1 ?_
 rw [rounds_succ]
 go_wp2
 go_ret
 exact ⟨rfl, (((Below.refl _ _).alloc (Nat.le_refl _) _).alloc (by simp) _).alloc (by simp; omega) _⟩
end Go.Proofs.YtajnfkmkombajabDoor
namespace Go.Proofs.YtajnfkmkombajabDoor
open Go.RowKit
def ErrIs (A : Nat → Addr) (w w' : World) (v : Value) (f : Nat × Int) : Prop :=
 (f.2 = -1 ∧ v = ev A f.1) ∨ (0 ≤ f.2 ∧ ∃ g : Nat, w.heap.size ≤ g ∧ v = .iface 134 (.pointer (some ⟨g, 0, none⟩)) ∧ w'.cell? ⟨g, 0, none⟩ = some (.int .i64 f.2) ∧ w'.cell? ⟨g, 1, none⟩ = some (ev A f.1))
theorem ErrIs.bare {A : Nat → Addr} {w w' : World} {c : Nat} : ErrIs A w w' (ev A c) (c, -1) := .inl ⟨rfl, rfl⟩
theorem ErrIs.nil {A : Nat → Addr} {w w' : World} : ErrIs A w w' .nilIface (0, -1) := .inl ⟨rfl, rfl⟩
theorem ErrIs.later {A : Nat → Addr} {w w1 w2 : World} {v : Value} {f : Nat × Int} (h : ErrIs A w w1 v f) (hk : ∀ g o, w.heap.size ≤ g → g < w1.heap.size → w2.cell? ⟨g, o, none⟩ = w1.cell? ⟨g, o, none⟩) : ErrIs A w w2 v f := by
 rcases h with h | ⟨h0, g, hg, hv, c0, c1⟩
 · exact .inl h
 · exact .inr ⟨h0, g, hg, hv, by rw [hk g 0 hg (World.block_lt_of_cell? _ _ c0)]; exact c0, by rw [hk g 1 hg (World.block_lt_of_cell? _ _ c1)]; exact c1⟩
theorem ErrIs.since {A : Nat → Addr} {w0 w w' : World} {v : Value} {f : Nat × Int} (h : ErrIs A w w' v f) (hs : w0.heap.size ≤ w.heap.size) : ErrIs A w0 w' v f := by
 rcases h with h | ⟨h0, g, hg, r⟩
 · exact .inl h
 · exact .inr ⟨h0, g, Nat.le_trans hs hg, r⟩
theorem ErrIs.yes {A : Nat → Addr} {w w' : World} {v : Value} {f : Nat × Int} (h : ErrIs A w w' v f) (hf : f.1 = 0) (hn : f.2 = -1) : v = .nilIface := by
 rcases h with ⟨_, h⟩ | ⟨h, _⟩
 · rw [h, hf]; rfl
 · omega
theorem ErrIs.no {A : Nat → Addr} {w w' : World} {v : Value} {f : Nat × Int} (h : ErrIs A w w' v f) (hf : f.1 ≠ 0) : ∃ t x, v = .iface t (.pointer (some x)) := by
 rcases h with ⟨_, h⟩ | ⟨_, g, _, h, _⟩
 · exact ⟨_, _, by rw [h, ev_some A hf]⟩
 · exact ⟨_, _, h⟩
end Go.Proofs.YtajnfkmkombajabDoor
