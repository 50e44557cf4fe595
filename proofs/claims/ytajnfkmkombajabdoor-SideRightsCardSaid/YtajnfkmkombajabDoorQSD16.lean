/-
  The walk of a goroutine in company: a block of one's own is made, a place of one's own is written; a region that draws its order. No program in sight.
  The program holds sync.WaitGroup: its functions and types under their numbers. Printed by gen_wgp.
-/
import Derived.Test.YtajnfkmkombajabDoorQSD15
import Derived.Orders
import Derived.Conc.AppendWalk
import Derived.Laws.CopyRow
import Derived.Test.YtajnfkmkombajabDoorProg
import Derived.Conc.WgLib
import Derived.KernelRfl
set_option linter.unusedVariables false
set_option linter.unusedSimpArgs false
namespace Go.Proofs.YtajnfkmkombajabDoor
open Go Go.Conc
section
variable {P : Program} {mn : Bool} {I : World → Prop} {S M : Nat → Prop} {Stop : Goroutine → World → (Nat → Prop) → Prop} {b : Frame} {a : Act} {k : List Item} {cs : List Frame} {W : World} {ops : Array Oper} {i : Nat} {rest : List Nat} {o : Oper}
theorem rely_push {W1 : World} (r : RelyS S M W W1) {ob : Obj} : RelyS S M W (W1.alloc ob) :=
 ⟨r.os, r.out, r.tape, by have := r.size; show _ ≤ (W1.heap.push ob).size; rw [Array.size_push]; omega, fun B hB hs => by
   have := r.size
   rw [← r.keep B hB hs]
   show (W1.heap.push ob)[B]? = _
   rw [Array.getElem?_push_lt (by omega), Array.getElem?_eq_getElem (by omega)]⟩
theorem alloc_size (W : World) (ob : Obj) : (W.alloc ob).heap.size = W.heap.size + 1 := Array.size_push _
theorem alloc_at (W : World) (ob : Obj) : (W.alloc ob).heap[W.heap.size]? = some ob := show (W.heap.push ob)[W.heap.size]? = some ob from Array.getElem?_push_size
theorem alloc_old (W : World) (ob : Obj) {B : Nat} (h : B < W.heap.size) : (W.alloc ob).heap[B]? = W.heap[B]? := by
 show (W.heap.push ob)[B]? = W.heap[B]?
 rw [Array.getElem?_push_lt h, Array.getElem?_eq_getElem h]
theorem push_moves (W1 : World) {ob : Obj} : Moves M (fun B => M B ∨ B = W1.heap.size) W1 (W1.alloc ob) := by
 refine ⟨rfl, rfl, rfl, Nat.le_refl _, by rw [alloc_size]; omega, fun B hB _ => alloc_old _ _ hB, fun B => ?_⟩
 · rw [alloc_size]
   exact ⟨fun h => h.imp id fun q => by omega, fun h => h.imp id fun q => by omega⟩
theorem gw_push {v : Nat → Value} {ob : Obj} (ho : ops[i]? = some o) (hw : Region.wanted o (yielded ops a.tmps) = true) (hk : b.kind ≠ .early)
   (hr : ∀ w, RelyS S M W w → I w → (execOp a.eval o).run P w = .ok (.value (v w.heap.size)) (w.alloc ob)) (he : ∀ w, RelyS S M W w → I w → ∀ e ∈ listed P b.fn a o w, EvOk S (fun B => M B ∨ B = w.heap.size) e)
   (h : ∀ W' B, RelyS S M W W' → W.heap.size ≤ B → B < W'.heap.size → W'.heap[B]? = some ob → GoesW P mn I S Stop (G (b.at (a.put o.dst (v B)) (.inRegion ops rest :: k)) cs) W' (fun x => M x ∨ x = B)) :
   GoesW P mn I S Stop (G (b.at a (.inRegion ops (i :: rest) :: k)) cs) W M := by
 refine .of_on fun W1 h1 i1 => ⟨rfl, _, _, _, stepG_value ho hw hk (hr W1 h1 i1), ?_, ?_, ?_⟩
 · rw [← (push_moves W1).grow]; exact push_moves W1
 · rw [← (push_moves W1).grow]; exact he W1 h1 i1
 · rw [← (push_moves W1).grow]
   exact h _ _ (rely_push h1) h1.size (by rw [alloc_size]; omega) (alloc_at _ _)
theorem stepG_drawn {w : World} {id : Nat} : stepG P mn (G (b.at a (.code (.region id ops true) :: k)) cs) w =
     .go (G (b.at a (.inRegion ops (Region.schedule (P.follows .mixedOrders) ops (w.tape w.drawn (.order b.fn id))) :: k)) cs) { w with drawn := w.drawn + 1 } := by
 simp [G, stepG, stepG.exec, Frame.at, choose, Sem.run, Question.forced, Question.cut]
theorem gw_draw {id : Nat} (h : ∀ W1, RelyS S M W W1 → ∀ t, GoesW P mn I S Stop (G (b.at a (.inRegion ops (Region.schedule (P.follows .mixedOrders) ops t) :: k)) cs) W1 M) : GoesW P mn I S Stop (G (b.at a (.code (.region id ops true) :: k)) cs) W M := by
 refine .of_on fun W1 h1 _ => ⟨rfl, _, _, _, stepG_drawn, ?_, fun e he => by simp at he, ?_⟩
 · rw [growM_still M W1 (W' := { W1 with drawn := W1.drawn + 1 }) rfl]; exact ⟨rfl, rfl, rfl, Nat.le_succ _, Nat.le_refl _, fun _ _ _ => rfl, fun B => ⟨.inl, fun q => q.elim (fun x => x) fun ⟨x, y⟩ => absurd y (Nat.not_lt.2 x)⟩⟩
 · rw [growM_still M W1 (W' := { W1 with drawn := W1.drawn + 1 }) rfl]; exact h { W1 with drawn := W1.drawn + 1 } (h1.trans (W2 := { W1 with drawn := W1.drawn + 1 }) ⟨rfl, rfl, rfl, Nat.le_refl _, fun _ _ _ => rfl⟩) _
end
section
variable {P : Program} {b : Frame} {k : List Item} {cs : List Frame} {ops : Array Oper} {X : Type}
theorem drawn {md : Region.Mode} (J : Array Bool → X → Act → World → (Nat → Prop) → Prop) (Wp : X → Goroutine → World → (Nat → Prop) → Prop)
   (hstep : ∀ l x a W M i rest, l.size = ops.size → J l x a W M → i ∈ Region.ready md ops l → (∀ x' a' W' M', J (l.setIfInBounds i true) x' a' W' M' → Wp x' (G (b.at a' (.inRegion ops rest :: k)) cs) W' M') → Wp x (G (b.at a (.inRegion ops (i :: rest) :: k)) cs) W M)
   (hfin : ∀ l x a W M, l.size = ops.size → J l x a W M → Region.ready md ops l = [] → Wp x (G (b.at a (.inRegion ops [] :: k)) cs) W M) :
   ∀ (fuel t : Nat) (l : Array Bool) (x : X) (a : Act) (W : World) (M : Nat → Prop), l.size = ops.size → (l.toList.filter fun q => !q).length ≤ fuel → J l x a W M → Wp x (G (b.at a (.inRegion ops (Region.linearise.go md ops fuel t l []) :: k)) cs) W M := by
 intro fuel
 have hlt : ∀ {l : Array Bool} {i : Nat}, i ∈ Region.ready md ops l → i < ops.size ∧ l.getD i true = false := fun {l i} h => by
   simp only [Region.ready, List.mem_filter, List.mem_range, Bool.and_eq_true] at h
   exact ⟨h.1, by simpa using h.2.1⟩
 induction fuel with
 | zero =>
   intro t l x a W M hs hl hJ
   simp only [Region.linearise.go, List.reverse_nil]
   refine hfin l x a W M hs hJ ?_
   cases hr : Region.ready md ops l with
   | nil => rfl
   | cons i is =>
     obtain ⟨h1, h2⟩ := hlt (l := l) (i := i) (by rw [hr]; simp)
     have : false ∈ l.toList := by
       rw [Array.getD_eq_getD_getElem?] at h2
       cases hq : l[i]? with
       | none => rw [hq] at h2; simp at h2
       | some q =>
         rw [hq] at h2
         simp only [Option.getD_some] at h2
         subst h2
         exact Array.mem_toList_iff.2 (Array.mem_of_getElem? hq)
     have hp : 0 < (l.toList.filter fun q => !q).length := List.length_pos_of_mem (List.mem_filter.2 ⟨this, rfl⟩)
     omega
 | succ fuel ih =>
   intro t l x a W M hs hl hJ
   simp only [Region.linearise.go]
   change Wp x (G (b.at a (.inRegion ops (match (Region.ready md ops l)[t % (Region.ready md ops l).length]? with
     | some i => Region.linearise.go md ops fuel (t / (Region.ready md ops l).length) (l.setIfInBounds i true) [i]
     | none => [].reverse) :: k)) cs) W M
   cases hi : (Region.ready md ops l)[t % (Region.ready md ops l).length]? with
   | none =>
     have hnil : Region.ready md ops l = [] := by
       cases hr : Region.ready md ops l with
       | nil => rfl
       | cons x xs =>
         rw [hr] at hi
         have hlt : t % (x :: xs).length < (x :: xs).length := Nat.mod_lt _ (by simp)
         simp at hi
         simp at hlt
         omega
     exact hfin l x a W M hs hJ hnil
   | some i =>
     simp only []
     rw [linearise_go_acc, List.reverse_singleton, List.singleton_append]
     have hm := List.mem_of_getElem? hi
     refine hstep l x a W M i _ hs hJ hm fun x' a' W' M' hJ' => ih _ _ x' a' W' M' (by simp [hs]) ?_ hJ'
     obtain ⟨h1, h2⟩ := hlt hm
     have hlen : i < l.size := by omega
     have hgi : l[i] = false := by
       rw [Array.getD_eq_getD_getElem?, Array.getElem?_eq_getElem hlen] at h2
       simpa using h2
     have key : ∀ (q : List Bool) (n : Nat) (hn : n < q.length), q[n] = false → ((q.set n true).filter fun q => !q).length + 1 = (q.filter fun q => !q).length := by
       intro q
       induction q with
       | nil => intro n hn; simp at hn
       | cons y ys ihq =>
         intro n hn hq
         cases n with
         | zero => simp at hq; subst hq; simp
         | succ n =>
           simp at hq hn
           have := ihq n (by omega) hq
           simp only [List.set_cons_succ, List.filter_cons]
           split <;> (try simp only [List.length_cons]) <;> omega
     have hk := key l.toList i (by simpa using hlen) (by simpa using hgi)
     have : (l.setIfInBounds i true).toList = l.toList.set i true := by simp
     rw [this]
     omega
theorem ready_lt {md : Region.Mode} {l : Array Bool} {i : Nat} (h : i ∈ Region.ready md ops l) : i < ops.size := by
 simp only [Region.ready, List.mem_filter, List.mem_range, Bool.and_eq_true] at h
 exact h.1
theorem ready_new {md : Region.Mode} {l : Array Bool} {i : Nat} (h : i ∈ Region.ready md ops l) : l.getD i true = false := by
 simp only [Region.ready, List.mem_filter, List.mem_range, Bool.and_eq_true] at h
 simpa using h.2.1
theorem ready_after {md : Region.Mode} {l : Array Bool} {i : Nat} {o : Oper} {e : Edge} (h : i ∈ Region.ready md ops l) (ho : ops[i]? = some o) (n : Nat) (hn : o.after[n]? = some e) (hb : Region.binds md e = true) : l.getD e.on false = true := by
 simp only [Region.ready, List.mem_filter, List.mem_range, Bool.and_eq_true, ho, Option.map_some, Option.getD_some] at h
 have := Array.all_eq_true'.1 h.2.2 e (Array.mem_of_getElem? hn)
 simpa [hb] using this
theorem ready_nil {md : Region.Mode} {l : Array Bool} (h : Region.ready md ops l = []) {i : Nat} {o : Oper} (ho : ops[i]? = some o) (hl : i < l.size) (ha : o.after.toList.all (fun e => !Region.binds md e || l.getD e.on false) = true) : l.getD i false = true := by
 rw [Array.all_toList] at ha
 have hi : i ∉ Region.ready md ops l := by rw [h]; simp
 simp only [Region.ready, List.mem_filter, List.mem_range, Bool.and_eq_true, ho, Option.map_some, Option.getD_some, ha, and_true] at hi
 have hlt : i < ops.size := by
   rcases Nat.lt_or_ge i ops.size with q | q
   · exact q
   · rw [Array.getElem?_eq_none q] at ho; cases ho
 have h2 : ¬ (!l.getD i true) = true := fun q => hi ⟨hlt, q⟩
 rw [Array.getD_eq_getD_getElem?, Array.getElem?_eq_getElem hl] at h2 ⊢
 simpa using h2
theorem drawn_all (hm : P.follows .mixedOrders = true) (J : Array Bool → X → Act → World → (Nat → Prop) → Prop) (Wp : X → Goroutine → World → (Nat → Prop) → Prop)
   (hstep : ∀ l x a W M i rest, l.size = ops.size → J l x a W M → i ∈ Region.ready .any ops l → (∀ x' a' W' M', J (l.setIfInBounds i true) x' a' W' M' → Wp x' (G (b.at a' (.inRegion ops rest :: k)) cs) W' M') → Wp x (G (b.at a (.inRegion ops (i :: rest) :: k)) cs) W M)
   (hfin : ∀ l x a W M, l.size = ops.size → J l x a W M → Region.ready .any ops l = [] → Wp x (G (b.at a (.inRegion ops [] :: k)) cs) W M)
   {x : X} {a : Act} {W : World} {M : Nat → Prop} (t : Nat) (h : J (Array.replicate ops.size false) x a W M) : Wp x (G (b.at a (.inRegion ops (Region.schedule (P.follows .mixedOrders) ops t) :: k)) cs) W M := by
 rw [show Region.schedule (P.follows .mixedOrders) ops t = Region.linearise .any ops t by simp [Region.schedule, hm]]
 refine drawn J Wp hstep hfin ops.size t _ x a W M (by simp) ?_ h
 refine Nat.le_trans (List.length_filter_le _ _) (by simp)
end
section
variable {P : Program} {a : Act} {o : Oper}
theorem run_make_op {x y : Operand} {t e : TypeId} {i : TypeInfo} {z : Value} {n : Nat} (hop : o.op = .makeSlice t x y) (hx : a.eval x = .int .i64 n) (hy : a.eval y = .int .i64 n) (ht : P.underlying t = some (.slice e)) (hi : P.info? e = some i) (hz : i.zero = some z) (hs : i.size = 1)
   (hb : i.bytes * n ≤ 140737488355328) (hn : n ≤ 9223372036854775807) (w : World) : (execOp a.eval o).run P w = .ok (.value (.slice (some ⟨w.heap.size, 0, none⟩) n n)) (w.alloc (.cells (madeCells z.cells n) e)) ∧ (execOp a.eval o).events P w #[] = #[] := by
 have hb' : (i.bytes : Int) * (n : Int) ≤ 281474976710656 := by
   have : ((i.bytes * n : Nat) : Int) ≤ 140737488355328 := by omega
   rw [Int.natCast_mul] at this; omega
 have h1 := run_make (P := P) w t e i z ht hi hz .i64 .i64 n n (by omega) (Int.le_refl _) hb' (by omega)
 have h2 := Go.Conc.events_make (P := P) w t e i z ht hi hz .i64 .i64 n n (by omega) (Int.le_refl _) hb' (by omega) (by simpa [Nat.mul_comm] using hb) #[]
 simp only [Int.toNat_natCast, hs, Nat.mul_one] at h1
 constructor
 · unfold execOp
   simp [hop, hx, hy, h1]
 · unfold execOp
   simp [hop, hx, hy, h1, h2]
end
section
variable {P : Program} {mn : Bool} {I : World → Prop} {S M : Nat → Prop} {Stop : Goroutine → World → (Nat → Prop) → Prop} {b : Frame} {a : Act} {k : List Item} {cs : List Frame} {W : World} {ops : Array Oper} {i : Nat} {rest : List Nat} {o : Oper}
theorem ev_storeCells (g q : Nat) (t : TypeId) : ∀ (vs : List Value) (i : Nat) (cur : Array Value) (w : World) (es : Array Event), w.heap[g]? = some (.cells cur t (0, 0)) → q + i + vs.length ≤ cur.size → (∀ v ∈ vs, v.oneCell' = true) →
   ∀ ev ∈ (storeCells ⟨g, q, none⟩ vs i).events P w es, ev ∈ es ∨ ∃ n, ev = ⟨.cell ⟨g, n, none⟩, true, false⟩ := by
 intro vs
 induction vs with
 | nil => exact fun _ _ _ _ _ _ _ ev h => .inl (by simpa [storeCells] using h)
 | cons v vs ih =>
   intro i cur w es hg hl h1 ev h
   have hi : q + i < cur.size := by simp at hl; omega
   have hadd : (⟨g, q, none⟩ : Addr).add i = ⟨g, q + i, none⟩ := by unfold Addr.add; split <;> simp_all
   have hcell : w.cell? ⟨g, q + i, none⟩ = some cur[q + i] := by simp [World.cell?, hg, hi]
   have hfro : w.frozen? ⟨g, q + i, none⟩ = false := by simp [World.frozen?, hg]
   have hst := run_store P w ⟨g, q + i, none⟩ v .plain (h1 v (by simp))
   have hev := Go.events_store P w es ⟨g, q + i, none⟩ v .plain (h1 v (by simp))
   rw [hcell] at hst hev
   simp only [hfro, Bool.false_eq_true, if_false] at hst hev
   rw [setCell_eq_setRow w g (q + i) cur t (0, 0) v hg] at hst
   simp only [storeCells, hadd, Sem.events_bind, hst, Result.evThen_ok, hev] at h
   rcases ih (i + 1) _ _ _ (setRow_heap w g cur (cur.setIfInBounds (q + i) v) t (0, 0) hg) (by simp at hl ⊢; omega) (fun x hx => h1 x (by simp [hx])) ev h with h | h
   · rcases Array.mem_push.1 h with h | rfl
     · exact .inl h
     · exact .inr ⟨_, rfl⟩
   · exact .inr h
theorem store_op {x y : Operand} {ty t : TypeId} {g off : Nat} {v : Value} {cur : Array Value} {w : World} (hop : o.op = .store ty x y) (hx : a.eval x = .pointer (some ⟨g, off, none⟩)) (hy : a.eval y = v) (hi : (P.info? ty).map (·.size) = some v.cells.size)
   (hg : w.heap[g]? = some (.cells cur t (0, 0))) (hfit : off + v.cells.size ≤ cur.size) (h1 : v.cells.all (·.oneCell') = true) :
   (execOp a.eval o).run P w = .ok .skip (w.setRow g (cur.toList.take off ++ v.cells.toList ++ cur.toList.drop (off + v.cells.size)).toArray) ∧ ∀ e ∈ (execOp a.eval o).events P w #[], ∃ n, e = ⟨.cell ⟨g, n, none⟩, true, false⟩ := by
 have h1' : ∀ u ∈ v.cells.toList, u.oneCell' = true := fun u hu => (Array.all_eq_true_iff_forall_mem.1 h1) u (by simpa using hu)
 have hr := run_storeCells_at (P := P) g off t v.cells.toList 0 cur w hg (by simpa using hfit) h1'
 obtain ⟨ti, hti, hsz⟩ := Option.map_eq_some_iff.1 hi
 have hsv : (storeVar ty ⟨g, off, none⟩ v).run P w = .ok () (w.setRow g (cur.toList.take off ++ v.cells.toList ++ cur.toList.drop (off + v.cells.size)).toArray) := by
   simp [storeVar, sizeOf, typeInfo, hti, hsz, hr]
 have hse : ∀ e ∈ (storeVar ty ⟨g, off, none⟩ v).events P w #[], ∃ n, e = ⟨.cell ⟨g, n, none⟩, true, false⟩ := fun e he => by
   simp only [storeVar, sizeOf, typeInfo] at he
   simp [hti, hsz] at he
   rcases ev_storeCells g off t _ 0 cur w _ hg (by simpa using hfit) h1' e he with q | q
   · simp at q
   · exact q
 constructor
 · unfold execOp
   simp [hop, hx, hy, Instr.storeAt, Instr.sureAddr, hsv]
 · intro e he
   unfold execOp at he
   simp [hop, hx, hy, Instr.storeAt, Instr.sureAddr, hsv] at he
   exact hse e he
theorem setRow_size (w : World) (g : Nat) (c : Array Value) : (w.setRow g c).heap.size = w.heap.size := by unfold World.setRow; simp
theorem setRow_old (w : World) (g : Nat) (c : Array Value) {B : Nat} (h : B ≠ g) : (w.setRow g c).heap[B]? = w.heap[B]? := by
 unfold World.setRow
 simp only [Array.getElem?_modify]
 rw [if_neg (Ne.symm h)]
theorem rely_setRow (S M : Nat → Prop) (w : World) (g : Nat) (c : Array Value) : RelyS (fun x => S x ∧ x ≠ g) (fun x => M x ∧ x ≠ g) w (w.setRow g c) :=
 ⟨rfl, rfl, rfl, by rw [setRow_size]; exact Nat.le_refl _, fun B _ hs => setRow_old w g c (hs.elim And.right And.right)⟩
theorem gw_store {x y : Operand} {ty t : TypeId} {g off : Nat} {v : Value} {cur : Array Value} (ho : ops[i]? = some o) (hw : Region.wanted o (yielded ops a.tmps) = true) (hk : b.kind ≠ .early) (hop : o.op = .store ty x y) (hx : a.eval x = .pointer (some ⟨g, off, none⟩)) (hy : a.eval y = v) (hi : (P.info? ty).map (·.size) = some v.cells.size)
   (hp : M g) (hlt : g < W.heap.size) (hg : W.heap[g]? = some (.cells cur t (0, 0))) (hfit : off + v.cells.size ≤ cur.size) (h1 : v.cells.all (·.oneCell') = true)
   (h : ∀ W', RelyS (fun x => S x ∧ x ≠ g) (fun x => M x ∧ x ≠ g) W W' → W'.heap[g]? = some (.cells (cur.toList.take off ++ v.cells.toList ++ cur.toList.drop (off + v.cells.size)).toArray t (0, 0)) → GoesW P mn I S Stop (G (b.at (a.put o.dst undef) (.inRegion ops rest :: k)) cs) W' M) :
   GoesW P mn I S Stop (G (b.at a (.inRegion ops (i :: rest) :: k)) cs) W M := by
 refine .of_on fun W1 r1 _ => ?_
 have hg1 : W1.heap[g]? = some (.cells cur t (0, 0)) := by rw [r1.keep g hlt (.inr hp)]; exact hg
 obtain ⟨e1, e2⟩ := store_op (P := P) hop hx hy hi hg1 hfit h1
 refine ⟨rfl, _, _, _, stepG_none ho hw hk e1, ?_, ?_, ?_⟩
 · rw [growM_still _ _ (setRow_size _ _ _)]
   exact ⟨rfl, rfl, rfl, Nat.le_refl _, by rw [setRow_size]; exact Nat.le_refl _, fun B _ hn => setRow_old _ _ _ fun q => hn (q ▸ hp), fun B => ⟨.inl, fun q => q.elim (fun q => q) fun ⟨q1, q2⟩ => by rw [setRow_size] at q2; omega⟩⟩
 · rw [growM_still _ _ (setRow_size _ _ _)]
   intro e he
   obtain ⟨n, rfl⟩ := e2 e (mem_listed he)
   exact evOk_wr hp
 · rw [growM_still _ _ (setRow_size _ _ _)]
   exact h _ ((r1.mono fun B q => q.imp And.left And.left).trans (rely_setRow _ _ _ _ _)) (setRow_heap _ _ _ _ _ _ hg1)
end
end Go.Proofs.YtajnfkmkombajabDoor
namespace Go.Proofs.YtajnfkmkombajabDoor
open Go Go.Conc.Lib
def wgL : WgLink := { add := 167, done := 170, wait := 156, relMerge := 187, disable := 171, enable := 173, inBubble := 179, associate := 188, fatal := 189, uOr := 190, uAdd := 191, raceRead := 192, uLoad := 172, uStore := 193, disassociate := 177, semrelease := 194, acquire := 174, isAssociated := 175, uCas := 176, raceWrite := 178, semacquire := 180, orU64 := 207, addU64 := 208, loadU64 := 195, storeU64 := 209, casU64 := 196, tWgP := 219, tUP := 202, tAssoc := 245, tWg := 198, tAU := 195, tU64 := 94, tUint := 184, tU32 := 196, tPU32 := 225, tPAU := 251, tPU64 := 253, tNoCopy := 191, tANoCopy := 192, tAlign64 := 193 }
theorem wgLib : WgLib Tryd.prog wgL where
 f_add := Tryd.func167
 f_done := Tryd.func170
 f_wait := Tryd.func156
 f_relMerge := Tryd.func187
 f_disable := Tryd.func171
 f_enable := Tryd.func173
 f_inBubble := Tryd.func179
 f_associate := Tryd.func188
 f_fatal := Tryd.func189
 f_uOr := Tryd.func190
 f_uAdd := Tryd.func191
 f_raceRead := Tryd.func192
 f_uLoad := Tryd.func172
 f_uStore := Tryd.func193
 f_disassociate := Tryd.func177
 f_semrelease := Tryd.func194
 f_acquire := Tryd.func174
 f_isAssociated := Tryd.func175
 f_uCas := Tryd.func176
 f_raceWrite := Tryd.func178
 f_semacquire := Tryd.func180
 f_orU64 := Tryd.func207
 f_addU64 := Tryd.func208
 f_loadU64 := Tryd.func195
 f_storeU64 := Tryd.func209
 f_casU64 := Tryd.func196
 underlying_tWgP := Tryd.underlying219
 runUnderlying_tWgP := Tryd.runUnderlying219
 sizeOf_tWgP := Tryd.sizeOf219
 isAgg_tWgP := Tryd.isAgg219
 zeroValue_tWgP := Tryd.zeroValue219
 underlying_tUP := Tryd.underlying202
 runUnderlying_tUP := Tryd.runUnderlying202
 sizeOf_tUP := Tryd.sizeOf202
 isAgg_tUP := Tryd.isAgg202
 zeroValue_tUP := Tryd.zeroValue202
 underlying_tI32 := Tryd.underlying245
 runUnderlying_tI32 := Tryd.runUnderlying245
 sizeOf_tI32 := Tryd.sizeOf245
 isAgg_tI32 := Tryd.isAgg245
 zeroValue_tI32 := Tryd.zeroValue245
 underlying_tWg := Tryd.underlying198
 runUnderlying_tWg := Tryd.runUnderlying198
 sizeOf_tWg := Tryd.sizeOf198
 isAgg_tWg := Tryd.isAgg198
 zeroValue_tWg := Tryd.zeroValue198
 underlying_tAU := Tryd.underlying195
 runUnderlying_tAU := Tryd.runUnderlying195
 sizeOf_tAU := Tryd.sizeOf195
 isAgg_tAU := Tryd.isAgg195
 zeroValue_tAU := Tryd.zeroValue195
 underlying_tU64 := Tryd.underlying94
 runUnderlying_tU64 := Tryd.runUnderlying94
 sizeOf_tU64 := Tryd.sizeOf94
 isAgg_tU64 := Tryd.isAgg94
 zeroValue_tU64 := Tryd.zeroValue94
 underlying_tSh := Tryd.underlying184
 runUnderlying_tSh := Tryd.runUnderlying184
 sizeOf_tSh := Tryd.sizeOf184
 isAgg_tSh := Tryd.isAgg184
 zeroValue_tSh := Tryd.zeroValue184
 underlying_tU32 := Tryd.underlying196
 runUnderlying_tU32 := Tryd.runUnderlying196
 sizeOf_tU32 := Tryd.sizeOf196
 isAgg_tU32 := Tryd.isAgg196
 zeroValue_tU32 := Tryd.zeroValue196
 underlying_tPU32 := Tryd.underlying225
 runUnderlying_tPU32 := Tryd.runUnderlying225
 sizeOf_tPU32 := Tryd.sizeOf225
 isAgg_tPU32 := Tryd.isAgg225
 zeroValue_tPU32 := Tryd.zeroValue225
 underlying_tPAU := Tryd.underlying251
 runUnderlying_tPAU := Tryd.runUnderlying251
 sizeOf_tPAU := Tryd.sizeOf251
 isAgg_tPAU := Tryd.isAgg251
 zeroValue_tPAU := Tryd.zeroValue251
 underlying_tPU64 := Tryd.underlying253
 runUnderlying_tPU64 := Tryd.runUnderlying253
 sizeOf_tPU64 := Tryd.sizeOf253
 isAgg_tPU64 := Tryd.isAgg253
 zeroValue_tPU64 := Tryd.zeroValue253
 underlying_t0 := Tryd.underlying0
 runUnderlying_t0 := Tryd.runUnderlying0
 sizeOf_t0 := Tryd.sizeOf0
 isAgg_t0 := Tryd.isAgg0
 zeroValue_t0 := Tryd.zeroValue0
 underlying_t3 := Tryd.underlying3
 runUnderlying_t3 := Tryd.runUnderlying3
 sizeOf_t3 := Tryd.sizeOf3
 isAgg_t3 := Tryd.isAgg3
 zeroValue_t3 := Tryd.zeroValue3
 underlying_t4 := Tryd.underlying4
 runUnderlying_t4 := Tryd.runUnderlying4
 sizeOf_t4 := Tryd.sizeOf4
 isAgg_t4 := Tryd.isAgg4
 zeroValue_t4 := Tryd.zeroValue4
 underlying_t9 := Tryd.underlying9
 runUnderlying_t9 := Tryd.runUnderlying9
 sizeOf_t9 := Tryd.sizeOf9
 isAgg_t9 := Tryd.isAgg9
 zeroValue_t9 := Tryd.zeroValue9
 underlying_t20 := Tryd.underlying20
 runUnderlying_t20 := Tryd.runUnderlying20
 sizeOf_t20 := Tryd.sizeOf20
 isAgg_t20 := Tryd.isAgg20
 zeroValue_t20 := Tryd.zeroValue20
 underlying_t21 := Tryd.underlying21
 runUnderlying_t21 := Tryd.runUnderlying21
 sizeOf_t21 := Tryd.sizeOf21
 isAgg_t21 := Tryd.isAgg21
 zeroValue_t21 := Tryd.zeroValue21
 room_tWg := by kernel_rfl
 room_tU32 := by kernel_rfl
end Go.Proofs.YtajnfkmkombajabDoor
