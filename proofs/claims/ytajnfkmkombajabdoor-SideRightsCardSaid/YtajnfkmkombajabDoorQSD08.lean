/-
  An operation of the white list, in company and alone: alike. No program in sight.
  One step of a goroutine in company, and of its like alone: the theorem.
  A contract alone, lifted to a goroutine in company: the runs, step by step; the draws glued into one tape.
  A contract alone, lifted to a goroutine in company: the theorem.
  A contract alone, lifted to a goroutine in company: whatever the others do in between, the call comes to its return, alike.
-/
import Derived.Test.YtajnfkmkombajabDoorQSD07
import Derived.Test.YtajnfkmkombajabDoorQSD06
set_option linter.unusedVariables false
set_option linter.unusedSimpArgs false
namespace Go.Proofs.YtajnfkmkombajabDoor
open Go
section
variable {P : Program} {ok : Fn → Prop} {Zo : Olds} {Sh : Nat → Prop} {ρ : Rho}
theorem st_if {c : Prop} [Decidable c] {s s' S S' : Sem Unit} {f F : Unit → Sem Value} (h1 : ST P ok Zo Sh (VR ok) (s >>= f) ρ (S >>= F)) (h2 : ST P ok Zo Sh (VR ok) (s' >>= f) ρ (S' >>= F)) :
   ST P ok Zo Sh (VR ok) ((if c then s else s') >>= f) ρ ((if c then S else S') >>= F) := by
 by_cases h : c
 · rw [if_pos h, if_pos h]; exact h1
 · rw [if_neg h, if_neg h]; exact h2
theorem st_guard (op : BinOp) {t : TypeId} (ht : (∃ ms, P.underlying t = some (.interface ms)) ∨ ∃ k, P.underlying t = some (.int k)) (xo yo : Operand) {x X y Y : Value} (hx : VR ok ρ x X) (hy : VR ok ρ y Y) {f F : Unit → Sem Value} (h : ST P ok Zo Sh (VR ok) (f ()) ρ (F ())) :
   ST P ok Zo Sh (VR ok) (eqGuard op t xo yo x y >>= f) ρ (eqGuard op t xo yo X Y >>= F) := by
 have hin : ∀ (a b : Value) (g : Bool → Sem Value) (ρ : Rho) (G : Bool → Sem Value) (A B : Value), VR ok ρ a A → VR ok ρ b B → (∀ v, ST P ok Zo Sh (VR ok) (g v) ρ (G v)) → ST P ok Zo Sh (VR ok) (Op.eqGuardIn Op.maxDepth t a b >>= g) ρ (Op.eqGuardIn Op.maxDepth t A B >>= G) := by
   intro a b g ρ G A B ha hb hg
   show ST P ok Zo Sh (VR ok) (Op.eqGuardIn (9999 + 1) t a b >>= g) ρ (Op.eqGuardIn (9999 + 1) t A B >>= G)
   unfold Op.eqGuardIn
   simp only [bind_assoc]
   refine st_underlying t fun d hd => ?_
   rcases ht with ⟨ms, ht⟩ | ⟨k, ht⟩
   · rw [ht] at hd
     cases hd
     cases ha with
     | nilIface => cases hb with
       | nilIface => exact hg _
       | hole h => cases B <;> first | exact hg _ | (cases h; done)
       | _ => exact hg _
     | hole h => cases A <;> first | (cases h; done) | (cases hb <;> exact hg _)
     | _ => cases hb <;> exact hg _
   · rw [ht] at hd
     cases hd
     cases ha with
     | hole h => cases A <;> first | (cases h; done) | (cases hb <;> exact hg _)
     | _ => cases hb <;> exact hg _
 have hun : ∀ (v : Bool) (u : Unsupported), plainHalt (.unsupported u) = true → ST P ok Zo Sh (VR ok) ((if v then unsupported u else pure () : Sem Unit) >>= f) ρ ((if v then unsupported u else pure () : Sem Unit) >>= F) := fun v u hu => by
   cases v with
   | true => exact .of_sr fun ρ' _ => srb_unsup hu
   | false => exact h
 cases op <;> first | exact h | skip
 all_goals
   cases hx <;> cases hy <;> first | exact h | (cases X <;> first | exact h | (rename_i hX; cases hX; done) | (rename_i hX _; cases hX; done) | (rename_i hX _ _; cases hX; done) | (rename_i hX _ _ _; cases hX; done) | (rename_i hX _ _ _ _; cases hX; done) | (cases Y <;> exact h)) | (cases Y <;> first | exact h | (rename_i hY; cases hY; done) | (rename_i hY _; cases hY; done)) | skip
 all_goals
   unfold eqGuard
   simp only [Bool.not_true, Bool.false_eq_true, if_false]
   try simp only [bind_assoc]
 · refine st_if h ?_
   rw [bind_assoc, bind_assoc]
   exact hin _ _ _ ρ _ _ _ .nilIface .nilIface fun v => hun v _ (by rfl)
 · rename_i x X hs hx y Y hs' hy
   refine st_program (st_program (st_if h ?_))
   rw [bind_assoc, bind_assoc]
   exact hin _ _ _ ρ _ _ _ (.agg hs hx) (.agg hs' hy) fun v => hun v _ (by rfl)
 · refine st_if h ?_
   rw [bind_assoc, bind_assoc]
   exact hin _ _ _ ρ _ _ _ .nilIface .nilIface fun v => hun v _ (by rfl)
 · rename_i x X hs hx y Y hs' hy
   refine st_program (st_program (st_if h ?_))
   rw [bind_assoc, bind_assoc]
   exact hin _ _ _ ρ _ _ _ (.agg hs hx) (.agg hs' hy) fun v => hun v _ (by rfl)
set_option maxHeartbeats 2000000 in
theorem st_binEq (op : BinOp) (ho : op = .eql ∨ op = .neq) (t : TypeId) {x X y Y : Value} (hx : VR ok ρ x X) (hy : VR ok ρ y Y) (hq : ST P ok Zo Sh EqR (Op.equal t x y) ρ (Op.equal t X Y)) : ST P ok Zo Sh (VR ok) (binOp op t x y) ρ (binOp op t X Y) := by
 have hE : ST P ok Zo Sh (VR ok) (Op.equal t x y >>= fun b => pure (.bool b)) ρ (Op.equal t X Y >>= fun b => pure (.bool b)) :=
   hq.bind fun b c ρ' e hb => by cases hb; exact .of_sr fun ρ' _ => sr_pure (.bool _)
 have hN : ST P ok Zo Sh (VR ok) (Op.equal t x y >>= fun b => pure (.bool !b)) ρ (Op.equal t X Y >>= fun b => pure (.bool !b)) :=
   hq.bind fun b c ρ' e hb => by cases hb; exact .of_sr fun ρ' _ => sr_pure (.bool _)
 rcases ho with rfl | rfl
 · cases hx <;> cases hy <;> first | exact hE | exact .of_sr fun ρ' _ => SR.dead (dead_bin1 _ (.inl rfl) _ _) | exact .of_sr fun ρ' _ => SR.dead (dead_bin2 _ (.inl rfl) _ _) | exact .of_sr fun ρ' _ => sr_binInt _ _ _ _ _ _ | exact .of_sr fun ρ' _ => by unfold binOp; exact sr_stringOp _ _ _
 · cases hx <;> cases hy <;> first | exact hN | exact .of_sr fun ρ' _ => SR.dead (dead_bin1 _ (.inr rfl) _ _) | exact .of_sr fun ρ' _ => SR.dead (dead_bin2 _ (.inr rfl) _ _) | exact .of_sr fun ρ' _ => sr_binInt _ _ _ _ _ _ | exact .of_sr fun ρ' _ => by unfold binOp; exact sr_stringOp _ _ _
end
section
variable {P : Program} {good : FuncId → Bool} {G : Gs} {Zo : Olds} {Sh : Nat → Prop} {ρ : Rho}
theorem st_exec (hz : ZeroOk P (okFn good)) (hs : SizeOk P) (hF : GoodFns P good G) (hE : G.eq = true → Zo.eq = true) (hg : Ext P ρ ρ) {x X : Array Value} (hx : VRs (okFn good) ρ x X) (hG : ∀ g, G.gl g = true → ρ g g) (o : Oper) (ho : okOp P good G o.op = true) :
   ST P (okFn good) Zo Sh (NR P good) (execOp (evT x) o) ρ (execOp (evT X) o) := by
 cases hp : partOp o.op with
 | true => exact .of_sr fun ρ' e => sr_exec hz hs hF e.refl (hx.ext e.le) (fun g q => e.le _ _ (hG g q)) o ho hp
 | false =>
   obtain ⟨dst, op, type, pos, after, guard⟩ := o
   cases op with
   | binOp op t a b u =>
     simp only [okOp, Bool.and_eq_true, Bool.or_eq_true] at ho
     have hop : op = .eql ∨ op = .neq := by
       cases op <;> first | exact .inl rfl | exact .inr rfl | cases hp
     have hb : simpleO b = false := by
       rcases (Bool.or_eq_false_iff.1 hp) with ⟨_, q⟩
       exact q
     have ha := ev_alike hx hG ho.1.1
     have hb' := ev_alike hx hG ho.1.2
     have hv : ST P (okFn good) Zo Sh (VR (okFn good)) (eqGuard op t a b (evT x a) (evT x b) >>= fun _ => binOp op t (evT x a) (evT x b)) ρ (eqGuard op t a b (evT X a) (evT X b) >>= fun _ => binOp op t (evT X a) (evT X b)) := by
       rcases ho.2 with ((q | q) | q) | q
       · rcases hop with rfl | rfl <;> cases q
       · rw [hb] at q; cases q
       · obtain ⟨ms, hms⟩ : ∃ ms, P.underlying t = some (.interface ms) := by
           have := q.2
           unfold ifaceT at this
           cases hd : P.underlying t with
           | none => rw [hd] at this; cases this
           | some d => rw [hd] at this; cases d <;> first | exact ⟨_, rfl⟩ | cases this
         exact st_guard op (.inl ⟨ms, hms⟩) a b ha hb' (st_binEq op hop t ha hb' (st_equalIn (hE q.1) Op.maxDepth t ρ _ _ _ _ hg ha hb'))
       · obtain ⟨k, hk⟩ := isIntT_iff q
         exact st_guard op (.inr ⟨k, hk⟩) a b ha hb' (st_binEq op hop t ha hb' (st_equalInt hk 9999 ρ _ _ _ _ hg ha hb'))
     exact hv.bind fun v V ρ' e h => .of_sr fun ρ2 e2 => sr_pure (.value (h.ext e2.le))
   | _ => cases hp
end
end Go.Proofs.YtajnfkmkombajabDoor
namespace Go.Proofs.YtajnfkmkombajabDoor
open Go Go.Conc
section
variable {P : Program} {mn : Bool} {good : FuncId → Bool} {Gl : Gs} {Zo : Olds} {S : Nat → Prop} {ρ : Rho} {M : Nat → Prop} {c0 : Frame} {Base : List Frame} {mid Mid : List Frame} {w W : World}
theorem putT_alike {ok : Fn → Prop} {t T : Array Value} (h : VRs ok ρ t T) (ops : Array Oper) (i : Nat) {v V : Value} (hv : VR ok ρ v V) : VRs ok ρ (putT t ops i v) (putT T ops i V) := by
 unfold putT
 split
 · exact h.set _ hv
 · exact h
theorem step_oper (hP : GoodP P good Gl) {fn : FuncId} {t T : Array Value} {ops : Array Oper} {i : Nat} {r : List Nat} {k : List Item} {o : Oper} (hf : ∃ fd, P.funcs[fn]? = some fd) (ht : VRs (okFn good) ρ t T) (hk : ∀ it ∈ k, okItem P good Gl it = true) (hops : (ops.all fun o => okOp P good Gl o.op) = true)
   (ho : ops[i]? = some o) (hw : Region.wanted o (yielded ops t) = true) (hm : FrsA P good Gl ρ mid Mid) (hr : HR P (okFn good) Zo S ρ M w W) (hQ : Gl.eq = true → Zo.eq = true) (hG : ∀ g, Gl.gl g = true → ρ g g)
   (hd : ∀ j, j < drawsOf P (mkF fn T (.inRegion ops (i :: r) :: k) .run) W → w.tape (w.drawn + j) = W.tape (W.drawn + j)) :
   LoneBad P (mkF fn t (.inRegion ops (i :: r) :: k) .run) (mid ++ [c0]) w ∨ StepA P mn good Gl Zo S ρ M c0 Base (mkF fn t (.inRegion ops (i :: r) :: k) .run) (mkF fn T (.inRegion ops (i :: r) :: k) .run) mid Mid w W := by
 have hoo : okOp P good Gl o.op = true := by
   obtain ⟨hi, hq⟩ := Array.getElem?_eq_some_iff.1 ho
   have := Array.all_eq_true.1 hops i hi
   rw [hq] at this; exact this
 have hW : Region.wanted o (yielded ops T) = true := by rw [yielded_alike ht]; exact hw
 have hdr : drawsOf P (mkF fn T (.inRegion ops (i :: r) :: k) .run) W = (((execOp (evT T) o).runT P W #[]).1).world.drawn - W.drawn := by
   simp [drawsOf, mkF, ho, hW]
 rw [hdr] at hd
 have hsim := st_exec hP.zero hP.size hP.good hQ hr.ext ht hG o hoo ρ M w W #[] #[] hr.ext hr (fun j hj => hd j (by omega))
 have e1 : stepG P true (G (mkF fn t (.inRegion ops (i :: r) :: k) .run) (mid ++ [c0])) w = _ := st_oper ho (by rw [ho]; exact hw)
 have e2 : stepG P mn (G (mkF fn T (.inRegion ops (i :: r) :: k) .run) (Mid ++ Base)) W = _ := st_oper ho (by rw [ho]; exact hW)
 rcases hsim with ⟨x, w', hx, h⟩ | ⟨a, b, w', W', ρ', M', es', new, h1, h2, h3, h4, h5, h6, h7, h8, h9, h10⟩
 · left
   unfold LoneBad
   rw [e1]
   exact ap_halt hx h
 · right
   have hdrawn : w'.drawn = w.drawn + drawsOf P (mkF fn T (.inRegion ops (i :: r) :: k) .run) W := by
     rw [hdr, h2]
     have := h6.drawn
     show w'.drawn = w.drawn + (W'.drawn - W.drawn)
     omega
   have hev : ∀ e ∈ seen P fn new, EvOk S M' e := fun e he => h10 e (seen_sub P fn new e he)
   have h2' : (execOp (evT T) o).runT P W #[] = (.ok b W', new) := by rw [h2]; simp
   have hall : ∀ it ∈ (Item.inRegion ops r :: k), okItem P good Gl it = true := fun it hi => by
     rcases List.mem_cons.1 hi with q | q
     · rw [q]; exact hops
     · exact hk it q
   have hall' : ∀ it ∈ (Item.inRegion ops (i :: r) :: k), okItem P good Gl it = true := fun it hi => by
     rcases List.mem_cons.1 hi with q | q
     · rw [q]; exact hops
     · exact hk it q
   cases h3 with
   | value hv => exact ⟨_, _, mid, Mid, ρ', M', w', W', _, _, by rw [e1]; exact ap_value h1, by rw [e2]; exact ap_value h2', .mk hf (putT_alike (ht.ext h4.le) ops i hv) hall (.inl rfl), hm.ext h4.le, h4, h5, h6, h7, hdrawn, hev⟩
   | skip => exact ⟨_, _, mid, Mid, ρ', M', w', W', _, _, by rw [e1]; exact ap_skip h1, by rw [e2]; exact ap_skip h2', .mk hf (putT_alike (ht.ext h4.le) ops i .undef) hall (.inl rfl), hm.ext h4.le, h4, h5, h6, h7, hdrawn, hev⟩
   | enter f hgf hbd hx =>
     obtain ⟨fd, bd, g1, g2, g3, g4⟩ := hP.body hgf hbd
     refine ⟨_, _, mkF fn t (.inRegion ops (i :: r) :: k) .run :: mid, mkF fn T (.inRegion ops (i :: r) :: k) .run :: Mid, ρ', M', w', W', _, _, by rw [e1]; exact ap_enter h1, by rw [e2]; exact ap_enter h2', ?_, .cons (.mk hf (ht.ext h4.le) hall' (.inl rfl)) (hm.ext h4.le), h4, h5, h6, h7, hdrawn, hev⟩
     rw [enter_mkF g1 g3, enter_mkF g1 g3]
     refine .mk ⟨_, g1⟩ (hx.append ?_) (fun it hi => ?_) (.inl rfl)
     · rw [hx.1]; exact VRs.replicate _
     · rcases List.mem_cons.1 hi with q | q
       · rw [q]; exact g4
       · cases q
theorem step_back (hP : GoodP P good Gl) {fn : FuncId} {t T : Array Value} {td : List Item} {c C : Frame} (hf : ∃ fd, P.funcs[fn]? = some fd) (ht : VRs (okFn good) ρ t T) (hc : FrA P good Gl ρ c C) (hm : FrsA P good Gl ρ mid Mid) (hr : HR P (okFn good) Zo S ρ M w W)
   (hd : ∀ j, j < drawsOf P (mkF fn T td .returning) W → w.tape (w.drawn + j) = W.tape (W.drawn + j)) :
   LoneBad P (mkF fn t td .returning) (c :: mid ++ [c0]) w ∨ StepA P mn good Gl Zo S ρ M c0 Base (mkF fn t td .returning) (mkF fn T td .returning) (c :: mid) (C :: Mid) w W := by
 obtain ⟨fd, g1⟩ := hf
 have hdr : drawsOf P (mkF fn T td .returning) W = (((results fd T).runT P W #[]).1).world.drawn - W.drawn := by
   simp [drawsOf, mkF, g1]
 rw [hdr] at hd
 have hsim := (sr_results (P := P) (ok := okFn good) fd ht).sim #[] #[] hr (fun j hj => hd j (by omega))
 rcases hsim with ⟨x, w', hx, h⟩ | ⟨a, b, w', W', ρ', M', es', new, h1, h2, h3, h4, h5, h6, h7, h8, h9, h10⟩
 · left
   exact .inl (st_results_bad g1 h)
 · right
   have h2' : (results fd T).runT P W #[] = (.ok b W', new) := by rw [h2]; simp
   refine ⟨c.finish a, C.finish b, mid, Mid, ρ', M', w', W', _, _, st_results g1 h1, st_results g1 h2', ?_, hm.ext h4.le, h4, h5, h6, h7, ?_, fun e he => h10 e (seen_sub P fn new e he)⟩
   · have hc' := hc.ext h4.le
     cases hc' with
     | @mk fn' t' T' td' m' hf' ht' hi' hm' =>
       cases td' with
       | nil => exact .mk hf' ht' hi' hm'
       | cons it k' =>
         cases it with
         | inRegion ops l =>
           cases l with
           | nil => exact .mk hf' ht' hi' hm'
           | cons i r =>
             refine FrA.mk (td := .inRegion ops r :: k') hf' (putT_alike ht' ops i h3) (fun it hi => ?_) hm'
             rcases List.mem_cons.1 hi with q | q
             · rw [q]; exact hi' (.inRegion ops (i :: r)) List.mem_cons_self
             · exact hi' _ (List.mem_cons_of_mem _ q)
         | code cd => exact .mk hf' ht' hi' hm'
         | inBlock id => exact .mk hf' ht' hi' hm'
         | inLoop b => exact .mk hf' ht' hi' hm'
         | inScope b => exact .mk hf' ht' hi' hm'
         | _ => have := hi' _ (List.mem_cons_self); cases this
   · rw [hdr, h2]
     have := h6.drawn
     show w'.drawn = w.drawn + (W'.drawn - W.drawn)
     omega
theorem step_sim (hP : GoodP P good Gl) {fr Fr : Frame} (hfr : FrA P good Gl ρ fr Fr) (hm : FrsA P good Gl ρ mid Mid) (hr : HR P (okFn good) Zo S ρ M w W) (hQ : Gl.eq = true → Zo.eq = true) (hG : ∀ g, Gl.gl g = true → ρ g g) (hn : ¬ (mid = [] ∧ fr.mode = .returning))
   (hd : ∀ j, j < drawsOf P Fr W → w.tape (w.drawn + j) = W.tape (W.drawn + j)) : LoneBad P fr (mid ++ [c0]) w ∨ StepA P mn good Gl Zo S ρ M c0 Base fr Fr mid Mid w W := by
 cases hfr with
 | @mk fn t T td m hf ht hi hmode =>
   rcases hmode with rfl | rfl
   · cases td with
     | nil => exact .inr (StepA.still st_nil st_nil (.mk hf ht hi (.inr rfl)) hm hr rfl)
     | cons it k =>
       have hk : ∀ x ∈ k, okItem P good Gl x = true := fun x hx => hi x (List.mem_cons_of_mem _ hx)
       have h0 := hi it List.mem_cons_self
       have two : ∀ {a b : Item}, okItem P good Gl a = true → okItem P good Gl b = true → ∀ x ∈ (a :: b :: k), okItem P good Gl x = true := fun ha hb x hx => by
         rcases List.mem_cons.1 hx with q | q
         · rw [q]; exact ha
         · rcases List.mem_cons.1 q with q | q
           · rw [q]; exact hb
           · exact hk x q
       have one : ∀ {a : Item}, okItem P good Gl a = true → ∀ x ∈ (a :: k), okItem P good Gl x = true := fun ha x hx => by
         rcases List.mem_cons.1 hx with q | q
         · rw [q]; exact ha
         · exact hk x q
       cases it with
       | inBlock id => exact .inr (StepA.still st_inBlock st_inBlock (.mk hf ht hk (.inl rfl)) hm hr rfl)
       | inScope b => exact .inr (StepA.still st_inScope st_inScope (.mk hf ht hk (.inl rfl)) hm hr rfl)
       | inLoop b => exact .inr (StepA.still st_inLoop st_inLoop (.mk hf ht (two h0 h0) (.inl rfl)) hm hr rfl)
       | inRegion ops l =>
         cases l with
         | nil => exact .inr (StepA.still st_end st_end (.mk hf ht hk (.inl rfl)) hm hr rfl)
         | cons i r =>
           cases hw : ((ops[i]?).map (Region.wanted · (yielded ops t))).getD false with
           | false =>
             have hW : ((ops[i]?).map (Region.wanted · (yielded ops T))).getD false = false := by rw [yielded_alike ht]; exact hw
             refine .inr (StepA.still (st_skipped hw) (st_skipped hW) (FrA.mk (td := .inRegion ops r :: k) hf (putT_alike ht ops i .undef) (one h0) (.inl rfl)) hm hr ?_)
             unfold drawsOf
             simp only [mkF]
             cases ho : ops[i]? with
             | none => rfl
             | some o =>
               rw [ho] at hW
               simp only [Option.map_some, Option.getD_some] at hW
               simp only [hW]
               rfl
           | true =>
             cases ho : ops[i]? with
             | none => rw [ho] at hw; cases hw
             | some o =>
               rw [ho] at hw
               exact step_oper hP hf ht hk h0 ho (by simpa using hw) hm hr hQ hG hd
       | code c =>
         cases c with
         | skip => exact .inr (StepA.still st_skip st_skip (.mk hf ht hk (.inl rfl)) hm hr rfl)
         | label l => exact .inr (StepA.still st_label st_label (.mk hf ht hk (.inl rfl)) hm hr rfl)
         | ret => exact .inr (StepA.still st_ret st_ret (.mk hf ht hi (.inr rfl)) hm hr rfl)
         | seq a b =>
           have h0' : okCode P good Gl a = true ∧ okCode P good Gl b = true := by simpa [okItem, okCode] using h0
           exact .inr (StepA.still st_seq st_seq (.mk hf ht (two h0'.1 h0'.2) (.inl rfl)) hm hr rfl)
         | block id b => exact .inr (StepA.still st_block st_block (.mk hf ht (two h0 rfl) (.inl rfl)) hm hr rfl)
         | loop b => exact .inr (StepA.still st_loop st_loop (.mk hf ht (two h0 h0) (.inl rfl)) hm hr rfl)
         | scope b => exact .inr (StepA.still st_scope st_scope (.mk hf ht (two h0 h0) (.inl rfl)) hm hr rfl)
         | cond q a b =>
           have h0' : (okOperand good Gl q = true ∧ okCode P good Gl a = true) ∧ okCode P good Gl b = true := by simpa [okItem, okCode] using h0
           have hv := ev_alike ht hG h0'.1.1
           by_cases hb : ∃ v, evT t q = .bool v
           · obtain ⟨v, hb⟩ := hb
             have hB : evT T q = .bool v := by
               rw [hb] at hv
               generalize evT T q = V at hv
               cases hv; rfl
             refine .inr (StepA.still (st_cond hb) (st_cond hB) (.mk hf ht (one ?_) (.inl rfl)) hm hr rfl)
             cases v
             · exact h0'.2
             · exact h0'.1.2
           · obtain ⟨o, h⟩ := st_cond_bad (P := P) (main := true) (fn := fn) (k := k) (cs := mid ++ [c0]) (w := w) (a := a) (b := b) (fun v q => hb ⟨v, q⟩)
             exact .inl (.inl ⟨o, w, #[], h⟩)
         | exit id =>
           cases he : exitTo id k with
           | none =>
             obtain ⟨o, h⟩ := st_exit_bad (P := P) (main := true) (fn := fn) (t := t) (cs := mid ++ [c0]) (w := w) he
             exact .inl (.inl ⟨o, w, #[], h⟩)
           | some k' => exact .inr (StepA.still (st_exit he) (st_exit he) (.mk hf ht (fun x hx => hk x (exitTo_sub he x hx)) (.inl rfl)) hm hr rfl)
         | region id ops d =>
           cases d with
           | false => exact .inr (StepA.still st_region st_region (.mk hf ht (one h0) (.inl rfl)) hm hr rfl)
           | true =>
             have hd0 := hd 0 (by simp [drawsOf, mkF])
             simp only [Nat.add_zero] at hd0
             refine .inr ⟨_, _, mid, Mid, ρ, M, _, _, #[], #[], st_draw, st_draw, ?_, hm, hr.ext, hr.draw (w' := { w with drawn := w.drawn + 1 }) (W' := { W with drawn := W.drawn + 1 }) rfl rfl, ⟨rfl, rfl, rfl, Nat.le_succ _, Nat.le_refl _, fun _ _ _ => rfl, fun B => ⟨.inl, fun q => q.elim (fun z => z) (fun ⟨x, y⟩ => by simp at y; omega)⟩⟩, rfl, by simp [drawsOf, mkF], fun e he => by simp at he⟩
             rw [hd0]
             exact .mk hf ht (one h0) (.inl rfl)
         | _ => cases h0
       | _ => cases h0
   · cases hm with
     | nil => exact absurd ⟨rfl, rfl⟩ hn
     | cons hc hm' => exact step_back hP hf ht hc hm' hr hd
end
end Go.Proofs.YtajnfkmkombajabDoor
namespace Go.Proofs.YtajnfkmkombajabDoor
open Go Go.Conc
structure RelyS (S M : Nat → Prop) (W W1 : World) : Prop where
 os : W1.os = W.os
 out : W1.output = W.output
 tape : W1.tape = W.tape
 size : W.heap.size ≤ W1.heap.size
 keep : ∀ B, B < W.heap.size → S B ∨ M B → W1.heap[B]? = W.heap[B]?
def growM (M : Nat → Prop) (W W' : World) : Nat → Prop := fun B => M B ∨ (W.heap.size ≤ B ∧ B < W'.heap.size)
theorem Moves.grow {M M' : Nat → Prop} {W W' : World} (h : Moves M M' W W') : M' = growM M W W' := funext fun B => propext (h.mine B)
inductive GoesW (P : Program) (mn : Bool) (I : World → Prop) (S : Nat → Prop) (Stop : Goroutine → World → (Nat → Prop) → Prop) : Goroutine → World → (Nat → Prop) → Prop
 | stop {g : Goroutine} {W : World} {M : Nat → Prop} (h : ∀ W1, RelyS S M W W1 → I W1 → Stop g W1 M) : GoesW P mn I S Stop g W M
 | step {g : Goroutine} {W : World} {M : Nat → Prop} (hs : g.status = .running)
     (h : ∀ W1, RelyS S M W W1 → I W1 → ∃ g' W' es, stepG P mn g W1 = .go g' W' es ∧ Moves M (growM M W1 W') W1 W' ∧ ∀ e ∈ es, EvOk S (growM M W1 W') e)
     (k : ∀ W1, RelyS S M W W1 → I W1 → ∀ g' W' es, stepG P mn g W1 = .go g' W' es → GoesW P mn I S Stop g' W' (growM M W1 W')) : GoesW P mn I S Stop g W M
structure CSt where
 Fr : Frame
 Mid : List Frame
 W : World
 M : Nat → Prop
def CSt.at (x : CSt) : Prop := x.Mid = [] ∧ x.Fr.mode = .returning
def NxtV (P : Program) (mn : Bool) (S : Nat → Prop) (Base : List Frame) (x : CSt) (V : World) (y : CSt) : Prop :=
 RelyS S x.M x.W V ∧ ¬ x.at ∧ ∃ es, stepG P mn (G x.Fr (x.Mid ++ Base)) V = .go (G y.Fr (y.Mid ++ Base)) y.W es ∧ Moves x.M y.M V y.W ∧ ∀ e ∈ es, EvOk S y.M e
def glueD (P : Program) (d0 : Nat) (sq : Nat → CSt) (Vs : Nat → World) : Nat → Nat
 | 0 => d0
 | i + 1 => glueD P d0 sq Vs i + drawsOf P (sq i).Fr (Vs i)
theorem glueD_mono (P : Program) (d0 : Nat) (sq : Nat → CSt) (Vs : Nat → World) {i j : Nat} (h : i ≤ j) : glueD P d0 sq Vs i ≤ glueD P d0 sq Vs j := by
 induction h with
 | refl => exact Nat.le_refl _
 | step _ ih => exact Nat.le_trans ih (Nat.le_add_right _ _)
theorem glue (P : Program) (d0 : Nat) (sq : Nat → CSt) (Vs : Nat → World) : ∃ τ : Nat → Question → Nat, ∀ i j, j < drawsOf P (sq i).Fr (Vs i) → τ (glueD P d0 sq Vs i + j) = (Vs i).tape ((Vs i).drawn + j) := by
 classical
 refine ⟨fun n => if h : ∃ i, glueD P d0 sq Vs i ≤ n ∧ n < glueD P d0 sq Vs (i + 1) then (Vs h.choose).tape ((Vs h.choose).drawn + (n - glueD P d0 sq Vs h.choose)) else fun _ => 0, fun i j hj => ?_⟩
 have hex : ∃ i', glueD P d0 sq Vs i' ≤ glueD P d0 sq Vs i + j ∧ glueD P d0 sq Vs i + j < glueD P d0 sq Vs (i' + 1) := ⟨i, Nat.le_add_right _ _, Nat.add_lt_add_left hj _⟩
 have hu : hex.choose = i := by
   obtain ⟨h1, h2⟩ := hex.choose_spec
   have h3 : glueD P d0 sq Vs i + j < glueD P d0 sq Vs (i + 1) := Nat.add_lt_add_left hj _
   rcases Nat.lt_trichotomy hex.choose i with q | q | q
   · have := glueD_mono P d0 sq Vs (show hex.choose + 1 ≤ i from q); omega
   · exact q
   · have := glueD_mono P d0 sq Vs (show i + 1 ≤ hex.choose from q); omega
 simp only [dif_pos hex]
 rw [hu, Nat.add_sub_cancel_left]
def stopFr : Frame := { fn := 0, tmps := #[], todo := [.code (.refuse "")], defers := [{ target := .nil, args := #[] }], mode := .run, kind := .normal }
section
variable {P : Program}
theorem step_of_stepG {fr fr' : Frame} {cs cs' : List Frame} {w w' : World} {es : Array Event} (h : stepG P true (G fr cs) w = .go (G fr' cs') w' es) : step P (lone fr cs w) = .next (lone fr' cs' w') :=
 step_lone_go (by have h' : stepG P true { frame := fr, callers := cs, status := .running, dying := none } w = _ := h; rw [h']; rfl)
theorem step_of_ended {fr : Frame} {cs : List Frame} {w w' : World} {es : Array Event} {o : Outcome} (h : stepG P true (G fr cs) w = .ended o w' es) : step P (lone fr cs w) = .ended o w' :=
 step_lone_ended (by have h' : stepG P true { frame := fr, callers := cs, status := .running, dying := none } w = _ := h; rw [h']; rfl)
theorem stop_ended (w : World) : ∃ o w', step P (lone stopFr [] w) = .ended o w' := by
 obtain ⟨o, h⟩ : ∃ o, stepG P true (G stopFr []) w = .ended o w #[] := by
   simp only [stopFr, G, stepG, stepG.exec]
   exact ⟨_, rfl⟩
 exact ⟨o, w, step_of_ended h⟩
def Sink (P : Program) (fr : Frame) : Prop := fr.defers = [] ∧ (∃ fd, P.funcs[fr.fn]? = some fd)
theorem FrA.sink {good : FuncId → Bool} {Gl : Gs} {ρ : Rho} (hP : GoodP P good Gl) {fr Fr : Frame} (h : FrA P good Gl ρ fr Fr) : Sink P fr := by
 cases h with
 | mk hf _ _ _ =>
   obtain ⟨fd, g1⟩ := hf
   exact ⟨rfl, fd, g1⟩
theorem sinks : ∀ (mid : List Frame) (fr : Frame) (w : World) (ch : List PanicEntry), Sink P fr → fr.mode = .panicking ch → (∀ c ∈ mid, Sink P c ∧ (c.mode = .run ∨ c.mode = .returning)) → ∀ n m', runN P n (lone fr (mid ++ [stopFr]) w) = .next m' → ∃ fr' cs' w' ch', m' = lone fr' cs' w' ∧ fr'.mode = .panicking ch' := by
 intro mid
 induction mid with
 | nil =>
   intro fr w ch hs hm _ n m' hn
   cases n with
   | zero => cases hn; exact ⟨fr, _, w, ch, rfl, hm⟩
   | succ n =>
     have h1 : step P (lone fr ([] ++ [stopFr]) w) = .next (lone { stopFr with mode := .panicking ch } [] w) := by
       obtain ⟨hd, fd, hf⟩ := hs
       refine step_of_stepG (es := #[]) ?_
       simp [G, stepG, unwind, hm, hd, hf, Frame.catches, Frame.raise, stopFr]
     rw [runN, h1] at hn
     simp only at hn
     cases n with
     | zero => cases hn; exact ⟨_, _, w, ch, rfl, rfl⟩
     | succ n =>
       have h2 : ∃ o w', step P (lone { stopFr with mode := .panicking ch } [] w) = .ended o w' := by
         obtain ⟨o, h⟩ : ∃ o, stepG P true (G { stopFr with mode := .panicking ch } []) w = .ended o w #[] := by
           simp only [stopFr, G, stepG, unwind, callDeferred]
           exact ⟨_, rfl⟩
         exact ⟨o, w, step_of_ended h⟩
       obtain ⟨o, w', h2⟩ := h2
       rw [runN, h2] at hn
       cases hn
 | cons c mid ih =>
   intro fr w ch hs hm hall n m' hn
   cases n with
   | zero => cases hn; exact ⟨fr, _, w, ch, rfl, hm⟩
   | succ n =>
     obtain ⟨hc, hcm⟩ := hall c (by simp)
     have h1 : step P (lone fr (c :: mid ++ [stopFr]) w) = .next (lone { c with mode := .panicking ch } (mid ++ [stopFr]) w) := by
       obtain ⟨hd, fd, hf⟩ := hs
       refine step_of_stepG (es := #[]) ?_
       rcases hcm with hcm | hcm <;> simp [G, stepG, unwind, hm, hd, hf, Frame.catches, Frame.raise, hcm]
     rw [runN, h1] at hn
     exact ih { c with mode := .panicking ch } w ch ⟨hc.1, hc.2⟩ rfl (fun d hd => hall d (by simp [hd])) n m' hn
end
end Go.Proofs.YtajnfkmkombajabDoor
namespace Go.Proofs.YtajnfkmkombajabDoor
open Go Go.Conc
theorem lone_inj {fr fr' : Frame} {cs cs' : List Frame} {w w' : World} (h : lone fr cs w = lone fr' cs' w') : fr = fr' ∧ cs = cs' ∧ w = w' := by
 have h1 := congrArg Machine.world h
 have h2 := congrArg (fun m => m.gs[0]?) h
 simp [lone] at h1 h2
 exact ⟨h2.1, h2.2, h1⟩
theorem runN_split {P : Program} {a b : Nat} {m m' m'' : Machine} (h1 : runN P a m = .next m') (h2 : runN P (a + b) m = .next m'') : runN P b m' = .next m'' := by
 rw [runN_add, h1] at h2
 exact h2
section
variable {P : Program} {mn : Bool} {good : FuncId → Bool} {Gl : Gs} {Zo : Olds} {S : Nat → Prop} {Base : List Frame} {fr0 : Frame} {w0 : World} {ρ0 : Rho} {Post : Value → World → Prop}
def LoneAt (P : Program) (good : FuncId → Bool) (Gl : Gs) (Zo : Olds) (S : Nat → Prop) (fr0 : Frame) (w0 : World) (ρ0 : Rho) (τ : Nat → Question → Nat) (i : Nat) (st : CSt) (d : Nat) : Prop :=
 ∃ fr mid w ρ, runN P i (lone fr0 [stopFr] { w0 with tape := τ }) = .next (lone fr (mid ++ [stopFr]) w) ∧ FrA P good Gl ρ fr st.Fr ∧ FrsA P good Gl ρ mid st.Mid ∧ HR P (okFn good) Zo S ρ st.M w st.W ∧ Ext P ρ0 ρ ∧ w.tape = τ ∧ w.drawn = d
theorem FrA.mode {ρ : Rho} {fr Fr : Frame} (h : FrA P good Gl ρ fr Fr) : Fr.mode = fr.mode ∧ (fr.mode = .run ∨ fr.mode = .returning) := by
 cases h with
 | mk _ _ _ hm => exact ⟨rfl, hm⟩
theorem FrA.shape {ρ : Rho} {fr Fr : Frame} (h : FrA P good Gl ρ fr Fr) : ∃ fn t td m, fr = mkF fn t td m := by
 cases h with
 | mk _ _ _ _ => exact ⟨_, _, _, _, rfl⟩
theorem FrsA.nil_iff {ρ : Rho} {cs Cs : List Frame} (h : FrsA P good Gl ρ cs Cs) : cs = [] ↔ Cs = [] := by
 cases h <;> simp
theorem FrsA.sinks (hP : GoodP P good Gl) {ρ : Rho} {cs Cs : List Frame} (h : FrsA P good Gl ρ cs Cs) : ∀ c ∈ cs, Sink P c ∧ (c.mode = .run ∨ c.mode = .returning) := by
 induction h with
 | nil => intro c hc; cases hc
 | cons h _ ih =>
   intro c hc
   rcases List.mem_cons.1 hc with q | q
   · rw [q]; exact ⟨h.sink hP, h.mode.2⟩
   · exact ih c q
def CallsFrom (P : Program) (fr0 : Frame) (w : World) (R : Ending → World → Prop) : Prop :=
 ∀ cs, ∃ e w' fr, R e w' ∧ Comes P (lone fr0 cs w) (lone fr cs w') e ∧ fr.leaving P w' e
theorem callsFrom_of {P : Program} {f : FuncId} {x : Array Value} {w : World} {R : Ending → World → Prop} (h : Calls P f x w R) : CallsFrom P (Frame.enter P f x .normal) w R :=
 fun cs => let ⟨e, w', fr, h1, h2, _, h4⟩ := h cs; ⟨e, w', fr, h1, h2, h4⟩
structure Ends (P : Program) (fr0 : Frame) (w0 : World) (Post : Value → World → Prop) (τ : Nat → Question → Nat) (n : Nat) (fr : Frame) (w : World) (v : Value) : Prop where
 run : runN P n (lone fr0 [stopFr] { w0 with tape := τ }) = .next (lone fr [stopFr] w)
 leave : fr.leaving P w (.returned v)
 post : Post v w
theorem ends_of (hC : ∀ τ, CallsFrom P fr0 { w0 with tape := τ } (fun e w' => ∃ v, e = .returned v ∧ Post v w')) (τ : Nat → Question → Nat) : ∃ n fr w v, Ends P fr0 w0 Post τ n fr w v := by
 obtain ⟨e, w', fr, ⟨v, rfl, hp⟩, hs, hl⟩ := hC τ [stopFr]
 obtain ⟨n, hn⟩ := hs
 exact ⟨n, fr, w', v, hn, hl, hp⟩
theorem lone_where (hP : GoodP P good Gl) {τ : Nat → Question → Nat} {n : Nat} {frF : Frame} {wF : World} {v : Value} (hE : Ends P fr0 w0 Post τ n frF wF v) {i : Nat} {st : CSt} {d : Nat} (h : LoneAt P good Gl Zo S fr0 w0 ρ0 τ i st d)
   (hist : ∀ l, l < i → ∃ st' d', LoneAt P good Gl Zo S fr0 w0 ρ0 τ l st' d' ∧ ¬ st'.at) : i ≤ n ∧ (i = n → st.at) := by
 have key : ∀ l st' d', LoneAt P good Gl Zo S fr0 w0 ρ0 τ l st' d' → l = n → st'.at := by
   rintro l st' d' ⟨fr, mid, w, ρ, h1, h2, h3, -⟩ rfl
   have := hE.run
   rw [h1] at this
   obtain ⟨rfl, hm, -⟩ := lone_inj (Stepped.next.inj this)
   have hmid : mid = [] := by
     cases mid with
     | nil => rfl
     | cons a l =>
       have := congrArg List.length hm
       simp at this
   exact ⟨h3.nil_iff.1 hmid, by rw [h2.mode.1]; exact hE.leave.1⟩
 constructor
 · rcases Nat.lt_or_ge n i with q | q
   · obtain ⟨st', d', g1, g2⟩ := hist n q
     exact absurd (key n st' d' g1 rfl) g2
   · exact q
 · intro e
   exact key i st d h e
theorem lone_next (hP : GoodP P good Gl) (hQ : Gl.eq = true → Zo.eq = true) (hG : ∀ g, Gl.gl g = true → ρ0 g g) {τ : Nat → Question → Nat} {n : Nat} {frF : Frame} {wF : World} {v : Value} (hE : Ends P fr0 w0 Post τ n frF wF v) {i : Nat} {st : CSt} {d : Nat} (h : LoneAt P good Gl Zo S fr0 w0 ρ0 τ i st d)
   (hist : ∀ l, l < i → ∃ st' d', LoneAt P good Gl Zo S fr0 w0 ρ0 τ l st' d' ∧ ¬ st'.at) (hn : ¬ st.at) {V : World} (hV : RelyS S st.M st.W V) (hd : ∀ j, j < drawsOf P st.Fr V → τ (d + j) = V.tape (V.drawn + j)) :
   ∃ y, NxtV P mn S Base st V y ∧ LoneAt P good Gl Zo S fr0 w0 ρ0 τ (i + 1) y (d + drawsOf P st.Fr V) := by
 obtain ⟨hin, hia⟩ := lone_where hP hE h hist
 obtain ⟨fr, mid, w, ρ, h1, h2, h3, h4, h5, h6, h7⟩ := h
 have hr := h4.rely hV.size hV.keep
 have hnot : ¬ (mid = [] ∧ fr.mode = .returning) := fun q => hn ⟨h3.nil_iff.1 q.1, by rw [h2.mode.1]; exact q.2⟩
 rcases step_sim (c0 := stopFr) (Base := Base) hP h2 h3 hr hQ (fun g q => h5.le _ _ (hG g q)) hnot (fun j hj => by rw [h6, h7]; exact hd j hj) with hb | ⟨fr', Fr', mid', Mid', ρ', M', w', W', es, ES, g1, g2, g3, g4, g5, g6, g7, g8, g9, g10⟩
 · exfalso
   have hlt : i < n := Nat.lt_of_le_of_ne hin (fun e => hn (hia e))
   obtain ⟨m, rfl⟩ : ∃ m, n = i + (m + 1) := ⟨n - i - 1, by omega⟩
   have hrun := runN_split h1 hE.run
   rcases hb with ⟨o, w', es, hb⟩ | ⟨ch, w', es, hb⟩
   · rw [runN, step_of_ended hb] at hrun
     cases hrun
   · rw [runN, step_of_stepG hb] at hrun
     have hsk := h2.sink hP
     have hall := h3.sinks hP
     obtain ⟨fr2, cs2, w2, ch2, e1, e2⟩ := sinks mid { fr with mode := .panicking ch } w' ch ⟨hsk.1, hsk.2⟩ rfl hall m _ hrun
     obtain ⟨rfl, -, -⟩ := lone_inj e1
     have := hE.leave.1
     rw [e2] at this
     cases this
 · refine ⟨⟨Fr', Mid', W', M'⟩, ⟨hV, hn, ES, g2, g7, g10⟩, fr', mid', w', ρ', ?_, g3, g4, g6, h5.trans g5, g8.trans h6, by rw [g9, h7]⟩
   rw [runN_add, h1]
   simp only [runN, step_of_stepG g1]
theorem lone_end (hP : GoodP P good Gl) {τ : Nat → Question → Nat} {n : Nat} {frF : Frame} {wF : World} {v : Value} (hE : Ends P fr0 w0 Post τ n frF wF v) {i : Nat} {st : CSt} {d : Nat} (h : LoneAt P good Gl Zo S fr0 w0 ρ0 τ i st d)
   (hist : ∀ l, l < i → ∃ st' d', LoneAt P good Gl Zo S fr0 w0 ρ0 τ l st' d' ∧ ¬ st'.at) (ha : st.at) :
   ∃ fr w ρ, FrA P good Gl ρ fr st.Fr ∧ HR P (okFn good) Zo S ρ st.M w st.W ∧ Ext P ρ0 ρ ∧ fr.leaving P w (.returned v) ∧ Post v w := by
 obtain ⟨hin, -⟩ := lone_where hP hE h hist
 obtain ⟨fr, mid, w, ρ, h1, h2, h3, h4, h5, h6, h7⟩ := h
 have hmid : mid = [] := h3.nil_iff.2 ha.1
 subst hmid
 have hfin : i = n → ∃ fr w ρ, FrA P good Gl ρ fr st.Fr ∧ HR P (okFn good) Zo S ρ st.M w st.W ∧ Ext P ρ0 ρ ∧ fr.leaving P w (.returned v) ∧ Post v w := by
   rintro rfl
   have := hE.run
   rw [h1] at this
   obtain ⟨rfl, -, rfl⟩ := lone_inj (Stepped.next.inj this)
   exact ⟨fr, w, ρ, h2, h4, h5, hE.leave, hE.post⟩
 by_cases e : i = n
 · exact hfin e
 · exfalso
   obtain ⟨m, rfl⟩ : ∃ m, n = i + (m + 1) := ⟨n - i - 1, by omega⟩
   have hrun := runN_split h1 hE.run
   have hm : fr.mode = .returning := by rw [← h2.mode.1]; exact ha.2
   obtain ⟨hd, fd, hf⟩ := h2.sink hP
   obtain ⟨fn, t, td, md, rfl⟩ := h2.shape
   have hm' : md = .returning := hm
   subst hm'
   cases hres : ((results fd t).runT P w #[]).1 with
   | halt y w' =>
     have hended : ∃ o w1 e1, stepG P true (G (mkF fn t td .returning) ([] ++ [stopFr])) w = .ended o w1 e1 := st_results_bad hf hres
     obtain ⟨o, w1, e1, hb⟩ := hended
     rw [runN, step_of_ended hb] at hrun
     cases hrun
   | ok a w' =>
     obtain ⟨es, hes⟩ : ∃ es, (results fd t).runT P w #[] = (.ok a w', es) := ⟨_, by rw [← hres]⟩
     have hg : stepG P true (G (mkF fn t td .returning) ([] ++ [stopFr])) w = .go (G stopFr []) w' (seen P fn es) := st_results (c := stopFr) hf hes
     rw [runN, step_of_stepG hg] at hrun
     simp only at hrun
     cases m with
     | zero =>
       have := (lone_inj (Stepped.next.inj hrun)).2.1
       cases this
     | succ m =>
       obtain ⟨o, w2, h2'⟩ := stop_ended (P := P) w'
       rw [runN, h2'] at hrun
       cases hrun
end
end Go.Proofs.YtajnfkmkombajabDoor
namespace Go.Proofs.YtajnfkmkombajabDoor
open Go Go.Conc
section
variable {P : Program} {mn : Bool} {I : World → Prop} {good : FuncId → Bool} {Gl : Gs} {Zo : Olds} {S : Nat → Prop} {Base : List Frame} {fr0 Fr0 : Frame} {w0 W0 : World} {ρ0 : Rho} {M0 : Nat → Prop} {Post : Value → World → Prop}
theorem NxtV.det {a y y' : CSt} {V : World} (h : NxtV P mn S Base a V y) (h' : NxtV P mn S Base a V y') : y = y' := by
 obtain ⟨-, -, es, h1, h2, -⟩ := h
 obtain ⟨-, -, es', h1', h2', -⟩ := h'
 rw [h1] at h1'
 obtain ⟨Fr, Mid, W, M⟩ := y
 obtain ⟨Fr', Mid', W', M'⟩ := y'
 simp only [GStep.go.injEq, G, Goroutine.mk.injEq] at h1'
 obtain ⟨⟨rfl, hm, -⟩, rfl, -⟩ := h1'
 obtain rfl : Mid = Mid' := List.append_cancel_right hm
 have e1 := h2.grow; have e2 := h2'.grow
 simp only at e1 e2
 rw [e1, e2]
def Chain (P : Program) (mn : Bool) (S : Nat → Prop) (Base : List Frame) (s0 : CSt) (K : Nat) (sq : Nat → CSt) (Vs : Nat → World) : Prop := sq 0 = s0 ∧ ∀ i, i < K → NxtV P mn S Base (sq i) (Vs i) (sq (i + 1))
theorem chain_lone (hP : GoodP P good Gl) (hQ : Gl.eq = true → Zo.eq = true) (hG : ∀ g, Gl.gl g = true → ρ0 g g) (hfr : FrA P good Gl ρ0 fr0 Fr0) (hr0 : HR P (okFn good) Zo S ρ0 M0 w0 W0) {τ : Nat → Question → Nat} {n : Nat} {frF : Frame} {wF : World} {v : Value} (hE : Ends P fr0 w0 Post τ n frF wF v)
   {K : Nat} {sq : Nat → CSt} {Vs : Nat → World} (hc : Chain P mn S Base ⟨Fr0, [], W0, M0⟩ K sq Vs) (hτ : ∀ i j, j < drawsOf P (sq i).Fr (Vs i) → τ (glueD P w0.drawn sq Vs i + j) = (Vs i).tape ((Vs i).drawn + j)) :
   ∀ i, i ≤ K → LoneAt P good Gl Zo S fr0 w0 ρ0 τ i (sq i) (glueD P w0.drawn sq Vs i) := by
 intro i
 induction i using Nat.strongRecOn with
 | _ i ih =>
   intro hi
   cases i with
   | zero =>
     exact ⟨fr0, [], { w0 with tape := τ }, ρ0, rfl, by rw [hc.1]; exact hfr, by rw [hc.1]; exact .nil, by rw [hc.1]; exact hr0.draw rfl rfl, hr0.ext, rfl, rfl⟩
   | succ i =>
     have h := ih i (Nat.lt_succ_self i) (by omega)
     have hn := hc.2 i (by omega)
     obtain ⟨y, hy, hl⟩ := lone_next hP hQ hG hE h (fun l hl => ⟨_, _, ih l (by omega) (by omega), (hc.2 l (by omega)).2.1⟩) hn.2.1 hn.1 (hτ i)
     obtain rfl := hn.det hy
     exact hl
theorem lift_from (hP : GoodP P good Gl) (hQ : Gl.eq = true → Zo.eq = true) (hG : ∀ g, Gl.gl g = true → ρ0 g g) (hfr : FrA P good Gl ρ0 fr0 Fr0) (hr0 : HR P (okFn good) Zo S ρ0 M0 w0 W0) (hC : ∀ τ, CallsFrom P fr0 { w0 with tape := τ } (fun e w' => ∃ v, e = .returned v ∧ Post v w')) :
   GoesW P mn I S (fun g W1 M => ∃ Fr fr w ρ v, g = G Fr Base ∧ Fr.mode = .returning ∧ FrA P good Gl ρ fr Fr ∧ HR P (okFn good) Zo S ρ M w W1 ∧ Ext P ρ0 ρ ∧ fr.leaving P w (.returned v) ∧ Post v w) (G Fr0 Base) W0 M0 := by
 classical
 have hhist : ∀ {K : Nat} {sq : Nat → CSt} {Vs : Nat → World} {τ : Nat → Question → Nat}, Chain P mn S Base ⟨Fr0, [], W0, M0⟩ K sq Vs → (∀ i, i ≤ K → LoneAt P good Gl Zo S fr0 w0 ρ0 τ i (sq i) (glueD P w0.drawn sq Vs i)) →
     ∀ l, l < K → ∃ st' d', LoneAt P good Gl Zo S fr0 w0 ρ0 τ l st' d' ∧ ¬ st'.at := fun hc hl l hlt => ⟨_, _, hl l (by omega), (hc.2 l hlt).2.1⟩
 -- a state of return
 have atR : ∀ K sq Vs, Chain P mn S Base ⟨Fr0, [], W0, M0⟩ K sq Vs → (sq K).at → ∀ W1, RelyS S (sq K).M (sq K).W W1 →
     ∃ Fr fr w ρ v, G (sq K).Fr ((sq K).Mid ++ Base) = G Fr Base ∧ Fr.mode = .returning ∧ FrA P good Gl ρ fr Fr ∧ HR P (okFn good) Zo S ρ (sq K).M w W1 ∧ Ext P ρ0 ρ ∧ fr.leaving P w (.returned v) ∧ Post v w := by
   intro K sq Vs hc ha W1 hW
   obtain ⟨τ, hτ⟩ := glue P w0.drawn sq Vs
   obtain ⟨n, frF, wF, v, hE⟩ := ends_of hC τ
   have hl := chain_lone hP hQ hG hfr hr0 hE hc hτ
   obtain ⟨fr, w, ρ, g1, g2, g3, g4, g5⟩ := lone_end hP hE (hl K (Nat.le_refl _)) (hhist hc hl) ha
   exact ⟨(sq K).Fr, fr, w, ρ, v, by rw [ha.1]; rfl, ha.2, g1, g2.rely hW.size hW.keep, g3, g4, g5⟩
 -- it goes on
 have goes : ∀ K sq Vs, Chain P mn S Base ⟨Fr0, [], W0, M0⟩ K sq Vs → ¬ (sq K).at → ∀ V, RelyS S (sq K).M (sq K).W V → ∃ y, NxtV P mn S Base (sq K) V y := by
   intro K sq Vs hc ha V hV
   have hc' : Chain P mn S Base ⟨Fr0, [], W0, M0⟩ K sq (fun i => if i = K then V else Vs i) := ⟨hc.1, fun i hi => by
     simp only [if_neg (Nat.ne_of_lt hi)]
     exact hc.2 i hi⟩
   obtain ⟨τ, hτ⟩ := glue P w0.drawn sq (fun i => if i = K then V else Vs i)
   obtain ⟨n, frF, wF, v, hE⟩ := ends_of hC τ
   have hl := chain_lone hP hQ hG hfr hr0 hE hc' hτ
   have hd := hτ K
   simp only [if_true] at hd
   obtain ⟨y, hy, -⟩ := lone_next (Base := Base) hP hQ hG hE (hl K (Nat.le_refl _)) (hhist hc' hl) ha hV hd
   exact ⟨y, hy⟩
 -- it goes on no end of times: never
 have noInf : ∀ sq Vs, ¬ ∀ K, Chain P mn S Base ⟨Fr0, [], W0, M0⟩ K sq Vs := by
   intro sq Vs hc
   obtain ⟨τ, hτ⟩ := glue P w0.drawn sq Vs
   obtain ⟨n, frF, wF, v, hE⟩ := ends_of hC τ
   have hl := chain_lone hP hQ hG hfr hr0 hE (hc (n + 1)) hτ
   have := (lone_where hP hE (hl (n + 1) (Nat.le_refl _)) (hhist (hc (n + 1)) hl)).1
   omega
 refine Classical.byContradiction fun hcon => ?_
 let Bad : CSt → Prop := fun y => (∃ K sq Vs, Chain P mn S Base ⟨Fr0, [], W0, M0⟩ K sq Vs ∧ sq K = y) ∧ ¬ GoesW P mn I S (fun g W1 M => ∃ Fr fr w ρ v, g = G Fr Base ∧ Fr.mode = .returning ∧ FrA P good Gl ρ fr Fr ∧ HR P (okFn good) Zo S ρ M w W1 ∧ Ext P ρ0 ρ ∧ fr.leaving P w (.returned v) ∧ Post v w) (G y.Fr (y.Mid ++ Base)) y.W y.M
 have hnext : ∀ y, Bad y → ∃ V z, NxtV P mn S Base y V z ∧ Bad z := by
   rintro y ⟨⟨K, sq, Vs, hc, rfl⟩, hng⟩
   by_cases ha : (sq K).at
   · exact absurd (.stop (fun W1 hW _ => atR K sq Vs hc ha W1 hW)) hng
   · refine Classical.byContradiction fun hno => ?_
     refine hng (.step rfl (fun W1 hW _ => ?_) (fun W1 hW _ g' W' es hg => ?_))
     · obtain ⟨z, hz⟩ := goes K sq Vs hc ha W1 hW
       obtain ⟨-, -, es, h1, h2, h3⟩ := hz
       refine ⟨_, _, es, h1, ?_, ?_⟩
       · rw [← h2.grow]; exact h2
       · rw [← h2.grow]; exact h3
     · obtain ⟨z, hz⟩ := goes K sq Vs hc ha W1 hW
       have hz' := hz
       obtain ⟨-, -, es', h1, h2, h3⟩ := hz'
       rw [h1] at hg
       cases hg
       rw [← h2.grow]
       refine Classical.byContradiction fun hb => ?_
       refine hno ⟨W1, z, hz, ⟨K + 1, fun i => if i ≤ K then sq i else z, fun i => if i < K then Vs i else W1, ⟨by simp only [Nat.zero_le, if_true]; exact hc.1, fun i hi => ?_⟩, by simp only [if_neg (show ¬ K + 1 ≤ K by omega)]⟩, hb⟩
       by_cases q : i < K
       · simp only [if_pos (Nat.le_of_lt q), if_pos q, if_pos (show i + 1 ≤ K from q)]
         exact hc.2 i q
       · obtain rfl : i = K := by omega
         simp only [Nat.le_refl, if_true, Nat.lt_irrefl, if_false, if_neg (show ¬ i + 1 ≤ i by omega)]
         exact hz
 have hs0 : Bad ⟨Fr0, [], W0, M0⟩ := ⟨⟨0, fun _ => ⟨Fr0, [], W0, M0⟩, fun _ => W0, ⟨rfl, fun i hi => by omega⟩, rfl⟩, hcon⟩
 let nx : {y // Bad y} → {y // Bad y} := fun y => ⟨(hnext y.1 y.2).choose_spec.choose, (hnext y.1 y.2).choose_spec.choose_spec.2⟩
 let sqT : Nat → {y // Bad y} := fun i => Nat.rec ⟨_, hs0⟩ (fun _ y => nx y) i
 refine noInf (fun i => (sqT i).1) (fun i => (hnext (sqT i).1 (sqT i).2).choose) fun K => ⟨rfl, fun i _ => ?_⟩
 exact (hnext (sqT i).1 (sqT i).2).choose_spec.choose_spec.1
end
end Go.Proofs.YtajnfkmkombajabDoor
