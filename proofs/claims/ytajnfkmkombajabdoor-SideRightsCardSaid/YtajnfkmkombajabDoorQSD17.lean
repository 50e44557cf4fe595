/-
  side.all: a worker: its birth, its way to the first task, from task to task, its end.
  side.all: the caller starts a worker.
-/
import Derived.Test.YtajnfkmkombajabDoorQSD15
import Derived.Test.YtajnfkmkombajabDoorQSD16
set_option linter.unusedVariables false
set_option linter.unusedSimpArgs false
namespace Go.Proofs.YtajnfkmkombajabDoor
open Go Go.Conc Go.ConcN Go.RowKit Go.Conc.Lib Go.ConcR.Gen Go.ConcN.Gen
open Go.ConcR (KK wgBlock WgAt stA smA)
noncomputable def bodyA : Code := (Tryd.f155).body.getD .skip
noncomputable def lpA : Code := match bodyA with | .seq _ (.block _ (.loop c)) => c | _ => .skip
noncomputable def rgA : Array Oper := match lpA with | .seq (.region _ ops _) _ => ops | _ => #[]
noncomputable def rsA : Code := match lpA with | .seq _ c => c | _ => .skip
noncomputable def sgA : Array Oper := match rsA with | .seq _ (.block _ (.seq _ (.seq _ (.region _ ops _)))) => ops | _ => #[]
noncomputable def bodyG : Code := (Tryd.f168).body.getD .skip
noncomputable def rgG : Array Oper := match bodyG with | .seq _ (.region _ ops _) => ops | _ => #[]
theorem arr21 (T : Array Value) (h : T.size = 21) : ∃ v0 v1 v2 v3 v4 v5 v6 v7 v8 v9 v10 v11 v12 v13 v14 v15 v16 v17 v18 v19 v20, T = #[v0, v1, v2, v3, v4, v5, v6, v7, v8, v9, v10, v11, v12, v13, v14, v15, v16, v17, v18, v19, v20] := by
 obtain ⟨l⟩ := T
 match l, h with
 | [v0, v1, v2, v3, v4, v5, v6, v7, v8, v9, v10, v11, v12, v13, v14, v15, v16, v17, v18, v19, v20], _ => exact ⟨_, _, _, _, _, _, _, _, _, _, _, _, _, _, _, _, _, _, _, _, _, rfl⟩
theorem arr5 (T : Array Value) (h : T.size = 5) : ∃ v0 v1 v2 v3 v4, T = #[v0, v1, v2, v3, v4] := by
 obtain ⟨l⟩ := T
 match l, h with
 | [v0, v1, v2, v3, v4], _ => exact ⟨_, _, _, _, _, rfl⟩
def Job (F : Farm Tryd.prog) (fh : FuncId) (hc : Array Value) (Res : Nat → Value → Value → World → (Nat → Prop) → Prop) (S : Nat → Prop) (W : World) : Prop :=
 ∀ i, i < F.many → ∀ (C : Frame) (Cs : List Frame) (Stop : Goroutine → World → (Nat → Prop) → Prop),
   (∀ ao n m err W2 M2, (err = .nilIface ∨ ∃ t v, err = .iface t v) → Res i (.slice ao n m) err W2 M2 → RelyS S (fun _ => False) W W2 → GoesW Tryd.prog false F.I S Stop (G (C.finish (.tuple #[.slice ao n m, err])) Cs) W2 M2) →
   GoesW Tryd.prog false F.I S Stop (G (Frame.enter Tryd.prog fh (#[.int .i64 i] ++ hc) .normal) (C :: Cs)) W (fun _ => False)
structure WF0 (F : Farm Tryd.prog) (b8 b9 Bh bx : Nat) (fh : FuncId) (hc : Array Value) (Res : Nat → Value → Value → World → (Nat → Prop) → Prop) (S : Nat → Prop) (W : World) : Prop where
 s8 : S b8
 s9 : S b9
 sh : S Bh
 sx : S bx
 c8 : W.cell? ⟨b8, 0, none⟩ = some (.chan (some F.Td))
 c9 : W.cell? ⟨b9, 0, none⟩ = some (.chan (some F.Bk))
 ch : W.cell? ⟨Bh, 0, none⟩ = some (.func (.func fh) #[] hc)
 cx : W.cell? ⟨bx, 0, none⟩ = some (.pointer (some ⟨F.Wg, 0, none⟩))
 job : Job F fh hc Res S W
 stays : ∀ i out err W W1 M, Res i out err W M → RelyS S M W W1 → Res i out err W1 M
def WF (F : Farm Tryd.prog) (b8 b9 Bh bx : Nat) (fh : FuncId) (hc : Array Value) (Res : Nat → Value → Value → World → (Nat → Prop) → Prop) (S : Nat → Prop) (W : World) : Prop := ∃ W0, WF0 F b8 b9 Bh bx fh hc Res S W0 ∧ RelyS S (fun _ => False) W0 W
section
variable {F : Farm Tryd.prog} {b8 b9 Bh bx : Nat} {fh : FuncId} {hc : Array Value} {Res : Nat → Value → Value → World → (Nat → Prop) → Prop} {S M : Nat → Prop} {W W1 : World}
theorem WF.rely (h : WF F b8 b9 Bh bx fh hc Res S W) (r : RelyS S M W W1) : WF F b8 b9 Bh bx fh hc Res S W1 :=
 let ⟨W0, h0, r0⟩ := h
 ⟨W0, h0, r0.trans (r.mono fun _ q => .inl (q.elim id False.elim))⟩
theorem WF.at (h : WF F b8 b9 Bh bx fh hc Res S W) : W.cell? ⟨b8, 0, none⟩ = some (.chan (some F.Td)) ∧ W.cell? ⟨b9, 0, none⟩ = some (.chan (some F.Bk)) ∧ W.cell? ⟨Bh, 0, none⟩ = some (.func (.func fh) #[] hc) ∧ W.cell? ⟨bx, 0, none⟩ = some (.pointer (some ⟨F.Wg, 0, none⟩)) :=
 let ⟨_, h0, r0⟩ := h
 ⟨cell_rely r0 (.inl h0.s8) h0.c8, cell_rely r0 (.inl h0.s9) h0.c9, cell_rely r0 (.inl h0.sh) h0.ch, cell_rely r0 (.inl h0.sx) h0.cx⟩
theorem WF.stays (h : WF F b8 b9 Bh bx fh hc Res S W) : ∀ i out err W W1 M, Res i out err W M → RelyS S M W W1 → Res i out err W1 M := let ⟨_, h0, _⟩ := h; h0.stays
theorem WF.mem (h : WF F b8 b9 Bh bx fh hc Res S W) : S b8 ∧ S b9 ∧ S Bh ∧ S bx := let ⟨_, h0, _⟩ := h; ⟨h0.s8, h0.s9, h0.sh, h0.sx⟩
end
noncomputable def frG (bx : Nat) (TG : Array Value) : Frame := (baseD 168).at ⟨TG, [{ target := .fn (.func 169) #[.pointer (some ⟨bx, 0, none⟩)], args := #[] }]⟩ [.inRegion rgG [1]]
def HeadA (F : Farm Tryd.prog) (b8 b9 Bh : Nat) (fh : FuncId) (hc : Array Value) (Res : Nat → Value → Value → World → (Nat → Prop) → Prop) (S : Nat → Prop) (g : Goroutine) (W : World) (M : Nat → Prop) : Prop :=
 (∀ b, ¬ M b) ∧ ∃ bx TG T, WF F b8 b9 Bh bx fh hc Res S W ∧ TG.size = 5 ∧ T.size = 21 ∧ T[0]? = some (.pointer (some ⟨b8, 0, none⟩)) ∧ T[1]? = some (.pointer (some ⟨Bh, 0, none⟩)) ∧ T[2]? = some (.pointer (some ⟨b9, 0, none⟩)) ∧ T[6]? = some (.chan (some F.Td)) ∧
   g = G ((base 155).at ⟨T, []⟩ [.inRegion rgA [0, 1], .code rsA, .inLoop lpA, .inBlock 0]) [frG bx TG, botF Tryd.prog]
def DelivA (Res : Nat → Value → Value → World → (Nat → Prop) → Prop) (S : Nat → Prop) (i : Nat) (v : Value) (W : World) (M : Nat → Prop) : Prop := ∃ ao n m err, v = .agg #[.int .i64 i, .slice ao n m, err] ∧ (err = .nilIface ∨ ∃ t v, err = .iface t v) ∧ Res i (.slice ao n m) err W M
def BackA (F : Farm Tryd.prog) (b8 b9 Bh : Nat) (fh : FuncId) (hc : Array Value) (Res : Nat → Value → Value → World → (Nat → Prop) → Prop) (S : Nat → Prop) (i : Nat) (v : Value) (g : Goroutine) (W : World) (M : Nat → Prop) : Prop :=
 DelivA Res S i v W M ∧ ∃ bx TG T, WF F b8 b9 Bh bx fh hc Res S W ∧ TG.size = 5 ∧ T.size = 21 ∧ T[0]? = some (.pointer (some ⟨b8, 0, none⟩)) ∧ T[1]? = some (.pointer (some ⟨Bh, 0, none⟩)) ∧ T[2]? = some (.pointer (some ⟨b9, 0, none⟩)) ∧ T[6]? = some (.chan (some F.Td)) ∧ T[16]? = some (.chan (some F.Bk)) ∧ T[20]? = some v ∧
   g = G ((base 155).at ⟨T, []⟩ [.inRegion sgA [5], .inBlock 1, .inLoop lpA, .inBlock 0]) [frG bx TG, botF Tryd.prog]
theorem served_at (b : Frame) (a : Act) (ops : Array Oper) (i : Nat) (rest : List Nat) (k : List Item) (cs : List Frame) (v : Value) : Go.Conc.served (G (b.at a (.inRegion ops (i :: rest) :: k)) cs) v = G (b.at (a.put ((ops[i]?).bind (·.dst)) v) (.inRegion ops rest :: k)) cs := by
 unfold Go.Conc.served
 simp only [G, Frame.finish_at]
section
variable {F : Farm Tryd.prog} {b8 b9 Bh bx : Nat} {fh : FuncId} {hc : Array Value} {Res : Nat → Value → Value → World → (Nat → Prop) → Prop} {S M : Nat → Prop} {g : Goroutine} {W W1 : World} {i : Nat} {v : Value}
theorem headA_run (h : HeadA F b8 b9 Bh fh hc Res S g W M) : g.status = .running := by
 obtain ⟨-, bx, TG, T, -, -, -, -, -, -, -, rfl⟩ := h
 rfl
theorem headA_rely (h : HeadA F b8 b9 Bh fh hc Res S g W M) (r : RelyS S M W W1) : HeadA F b8 b9 Bh fh hc Res S g W1 M := by
 obtain ⟨h0, bx, TG, T, h1, h2⟩ := h
 exact ⟨h0, bx, TG, T, h1.rely r, h2⟩
theorem headA_comm (h : HeadA F b8 b9 Bh fh hc Res S g W M) : stepG Tryd.prog false g W = .comm g #[rcase F.Td (.int .i64 0)] true (.recv true) W #[] := by
 obtain ⟨-, bx, TG, T, -, -, hT, -, -, -, t6, rfl⟩ := h
 have hi : (Tryd.prog.info? 3).map (·.zero) = some (some (.int .i64 0)) := by kernel_rfl
 obtain ⟨ti, h1, h2⟩ := Option.map_eq_some_iff.1 hi
 refine stepG_recv (ops := rgA) rfl rfl (by k_ne) rfl ?_ Tryd.underlying188 h1 h2 W
 simp [Act.eval, Array.getD_eq_getD_getElem?, t6]
theorem backA_run (h : BackA F b8 b9 Bh fh hc Res S i v g W M) : g.status = .running := by
 obtain ⟨-, bx, TG, T, -, -, -, -, -, -, -, -, -, rfl⟩ := h
 rfl
theorem backA_rely (h : BackA F b8 b9 Bh fh hc Res S i v g W M) (r : RelyS S M W W1) : BackA F b8 b9 Bh fh hc Res S i v g W1 M := by
 obtain ⟨⟨ao, n, m, err, e1, e2, e3⟩, bx, TG, T, h1, h2⟩ := h
 exact ⟨⟨ao, n, m, err, e1, e2, h1.stays _ _ _ _ _ _ e3 r⟩, bx, TG, T, h1.rely r, h2⟩
theorem backA_comm (h : BackA F b8 b9 Bh fh hc Res S i v g W M) : stepG Tryd.prog false g W = .comm g #[scase F.Bk v (.tuple #[])] true .send W #[] := by
 obtain ⟨-, bx, TG, T, -, -, hT, -, -, -, -, t16, t20, rfl⟩ := h
 refine stepG_send (ops := sgA) rfl rfl (by k_ne) rfl ?_ ?_ W
 · simp [Act.eval, Array.getD_eq_getD_getElem?, t16]
 · simp [Act.eval, Array.getD_eq_getD_getElem?, t20]
set_option maxRecDepth 100000 in
set_option maxHeartbeats 2000000 in
theorem backA_done (hB : ∀ S g W M, HeadA F b8 b9 Bh fh hc Res S g W M → F.Head S g W M) (h : BackA F b8 b9 Bh fh hc Res S i v g W M) : DelivA Res S i v W M ∧ F.Go false S (F.Head S) (Go.Conc.served g undef) W (fun _ => False) := by
 obtain ⟨hd, bx, TG, T, hw, hTG, hT, t0, t1, t2, t6, -, -, rfl⟩ := h
 refine ⟨hd, ?_⟩
 rw [served_at]
 refine gw_region_end ?_
 refine gw_inBlock ?_
 refine gw_inLoop ?_
 simp only [lpA, bodyA, Tryd.f155, Option.getD_some]
 refine gw_seq ?_
 refine gw_region ?_
 simp only [List.size_toArray, List.length_cons, List.length_nil, Nat.reduceAdd, Nat.zero_add, List.range, List.range.loop]
 exact GoesW.stop fun W1 r _ => hB _ _ _ _ ⟨fun _ q => q, bx, TG, _, hw.rely r, hTG, hT, t0, t1, t2, t6, rfl⟩
set_option maxRecDepth 100000 in
set_option maxHeartbeats 4000000 in
theorem headA_take (hB : ∀ S i v g W M, BackA F b8 b9 Bh fh hc Res S i v g W M → F.Back S i v g W M) (hfh : ∃ fn c, Tryd.prog.funcs[fh]? = some fn ∧ (fn.name == "runtime.NumGoroutine") = false ∧ fn.body = some c) (h : HeadA F b8 b9 Bh fh hc Res S g W M) (hi : i < F.many) :
   F.Go false S (fun g W M => ∃ v, F.Back S i v g W M) (Go.Conc.served g (recvd true (.int .i64 i) true)) W M := by
 obtain ⟨h0, bx, TG, T, hw, hTG, hT, t0, t1, t2, t6, rfl⟩ := h
 obtain ⟨fn, c, f1, f2, f3⟩ := hfh
 obtain rfl : M = fun _ => False := funext fun b => eq_false (h0 b)
 rw [served_at]
 obtain ⟨v0, v1, v2, v3, v4, v5, v6, v7, v8, v9, v10, v11, v12, v13, v14, v15, v16, v17, v18, v19, v20, rfl⟩ := arr21 T hT
 simp only [List.getElem?_toArray, List.getElem?_cons_zero, List.getElem?_cons_succ, Option.some.injEq] at t0 t1 t2 t6
 subst t0; subst t1; subst t2; subst t6
 simp only [rgA, rsA, lpA, bodyA, Tryd.f155, Option.getD_some, recvd, if_true]
 walk_nrm
 repeat (first
   | refine gw_seq ?_
   | refine gw_skip ?_
   | refine gw_block ?_
   | refine gw_loop ?_
   | refine gw_inLoop ?_
   | refine gw_inBlock ?_
   | refine gw_region_end ?_
   | refine gw_label ?_
   | refine gw_ret ?_
   | (refine gw_region ?_; simp only [List.size_toArray, List.length_cons, List.length_nil, Nat.reduceAdd, Nat.zero_add, List.range, List.range.loop])
   | refine gw_exit rfl ?_
   | refine gw_yes rfl ?_
   | refine gw_no rfl ?_
   | (refine gw_op rfl rfl (by k_ne) (fun wq rq iq Kq hKq => ?_)
      go_simp
      refine hKq _ ?_ ?_
      · intro eq heq
        have hmq := mem_listed heq
        simp [go_sem, *] at hmq
      clear hKq Kq rq iq wq
      try w_num)
   | (refine gw_unwanted rfl rfl ?_; walk_nrm)
   | (refine gw_defer rfl rfl (by k_ne) rfl ?_; walk_nrm))
 refine gw_op rfl rfl (by k_ne) (fun wq rq iq Kq hKq => ?_)
 have hl := (hw.rely rq).at.2.2.1
 go_simp
 refine hKq _ ?_ ?_
 · intro eq heq
   have hmq := mem_listed heq
   simp [go_sem, *] at hmq
   subst hmq
   exact evOk_rd (.inl hw.mem.2.2.1)
 clear hKq Kq hl rq iq wq
 (refine gw_op rfl rfl (by k_ne) (fun wq rq iq Kq hKq => ?_)
  go_simp
  refine hKq _ ?_ ?_
  · intro eq heq
    have hmq := mem_listed heq
    simp [go_sem, *] at hmq
  clear hKq Kq rq iq wq
  try w_num)
 refine gw_callv (first := #[]) (cap := hc) rfl rfl (by k_ne) rfl rfl f1 f2 f3 ?_
 obtain ⟨W0, hw0, r0⟩ := hw
 walk_nrm
 refine GoesW.rely (hw0.job i hi _ _ _ ?_) r0
 intro ao n m err W2 M2 hce hres r2
 have hw2 : WF F b8 b9 Bh bx fh hc Res S W2 := ⟨W0, hw0, r2⟩
 clear r0 r2
 rw [Frame.finish_at]
 walk_nrm
 repeat (first
   | refine gw_seq ?_
   | refine gw_skip ?_
   | refine gw_block ?_
   | refine gw_loop ?_
   | refine gw_inLoop ?_
   | refine gw_inBlock ?_
   | refine gw_region_end ?_
   | refine gw_label ?_
   | refine gw_ret ?_
   | (refine gw_region ?_; simp only [List.size_toArray, List.length_cons, List.length_nil, Nat.reduceAdd, Nat.zero_add, List.range, List.range.loop])
   | refine gw_exit rfl ?_
   | refine gw_yes rfl ?_
   | refine gw_no rfl ?_
   | (refine gw_op rfl rfl (by k_ne) (fun wq rq iq Kq hKq => ?_)
      go_simp
      refine hKq _ ?_ ?_
      · intro eq heq
        have hmq := mem_listed heq
        simp [go_sem, *] at hmq
      clear hKq Kq rq iq wq
      try w_num)
   | (refine gw_unwanted rfl rfl ?_; walk_nrm)
   | (refine gw_defer rfl rfl (by k_ne) rfl ?_; walk_nrm))
 refine gw_op rfl rfl (by k_ne) (fun wq rq iq Kq hKq => ?_)
 have hl := (hw2.rely rq).at.2.1
 go_simp
 refine hKq _ ?_ ?_
 · intro eq heq
   have hmq := mem_listed heq
   simp [go_sem, *] at hmq
   subst hmq
   exact evOk_rd (.inl hw2.mem.2.1)
 clear hKq Kq hl rq iq wq
 (refine gw_op rfl rfl (by k_ne) (fun wq rq iq Kq hKq => ?_)
  go_simp
  refine hKq _ ?_ ?_
  · intro eq heq
    have hmq := mem_listed heq
    simp [go_sem, *] at hmq
  clear hKq Kq rq iq wq
  try w_num)
 (refine gw_op rfl rfl (by k_ne) (fun wq rq iq Kq hKq => ?_)
  go_simp
  refine hKq _ ?_ ?_
  · intro eq heq
    have hmq := mem_listed heq
    simp [go_sem, *] at hmq
  clear hKq Kq rq iq wq
  try w_num)
 (refine gw_op rfl rfl (by k_ne) (fun wq rq iq Kq hKq => ?_)
  go_simp
  refine hKq _ ?_ ?_
  · intro eq heq
    have hmq := mem_listed heq
    simp [go_sem, *] at hmq
  clear hKq Kq rq iq wq
  try w_num)
 have fin : ∀ e, (e = err) → True := fun _ _ => trivial
 clear fin
 rcases hce with rfl | ⟨te, ve, rfl⟩
 · refine gw_val (v := .agg #[.int .i64 i, .slice ao n m, .nilIface]) rfl rfl (by k_ne) (fun w => by kernel_rfl) (fun w => by kernel_rfl) ?_
   walk_nrm
   exact GoesW.stop fun W3 r3 _ => ⟨_, hB _ _ _ _ _ _ ⟨⟨ao, n, m, _, rfl, .inl rfl, hw0.stays _ _ _ _ _ _ hres r3⟩, bx, TG, _, hw2.rely r3, hTG, rfl, rfl, rfl, rfl, rfl, rfl, rfl, rfl⟩⟩
 · refine gw_val (v := .agg #[.int .i64 i, .slice ao n m, .iface te ve]) rfl rfl (by k_ne) (fun w => by kernel_rfl) (fun w => by kernel_rfl) ?_
   walk_nrm
   exact GoesW.stop fun W3 r3 _ => ⟨_, hB _ _ _ _ _ _ ⟨⟨ao, n, m, _, rfl, .inr ⟨_, _, rfl⟩, hw0.stays _ _ _ _ _ _ hres r3⟩, bx, TG, _, hw2.rely r3, hTG, rfl, rfl, rfl, rfl, rfl, rfl, rfl, rfl⟩⟩
theorem Tryd.enterD (x : Value) : Frame.enter Tryd.prog 169 #[x] .deferred = (baseD 169).at ⟨#[x, undef, undef, undef, undef, undef, undef, undef], []⟩ [.code ((Tryd.f169).body.getD .skip)] := by
 rw [enter_atD (fn := Tryd.f169) (c := (Tryd.f169).body.getD .skip) #[x] Tryd.func169 rfl]
 rfl
set_option maxRecDepth 100000 in
set_option maxHeartbeats 4000000 in
theorem headA_end (hty : F.ty = 198) (h : HeadA F b8 b9 Bh fh hc Res S g W M) (hI : F.I W) :
   F.Go false S (F.R0 S) (Go.Conc.served g (recvd true (.int .i64 0) false)) W M := by
 obtain ⟨h0, bx, TG, T, hw, hTG, hT, t0, t1, t2, t6, rfl⟩ := h
 have H := wgLib
 have hL : F.ty = wgL.tWg := hty
 rw [served_at]
 obtain ⟨v0, v1, v2, v3, v4, v5, v6, v7, v8, v9, v10, v11, v12, v13, v14, v15, v16, v17, v18, v19, v20, rfl⟩ := arr21 T hT
 simp only [List.getElem?_toArray, List.getElem?_cons_zero, List.getElem?_cons_succ, Option.some.injEq] at t0 t1 t2 t6
 subst t0; subst t1; subst t2; subst t6
 simp only [rgA, rsA, lpA, bodyA, Tryd.f155, Option.getD_some, recvd, if_true]
 walk_nrm
 repeat (first
   | refine gw_seq ?_
   | refine gw_skip ?_
   | refine gw_block ?_
   | refine gw_loop ?_
   | refine gw_inLoop ?_
   | refine gw_inBlock ?_
   | refine gw_region_end ?_
   | refine gw_label ?_
   | refine gw_ret ?_
   | (refine gw_region ?_; simp only [List.size_toArray, List.length_cons, List.length_nil, Nat.reduceAdd, Nat.zero_add, List.range, List.range.loop])
   | refine gw_exit rfl ?_
   | refine gw_yes rfl ?_
   | refine gw_no rfl ?_
   | (refine gw_op rfl rfl (by k_ne) (fun wq rq iq Kq hKq => ?_)
      go_simp
      refine hKq _ ?_ ?_
      · intro eq heq
        have hmq := mem_listed heq
        simp [go_sem, *] at hmq
      clear hKq Kq rq iq wq
      try w_num)
   | (refine gw_unwanted rfl rfl ?_; walk_nrm)
   | (refine gw_defer rfl rfl (by k_ne) rfl ?_; walk_nrm))
 refine gw_end ?_
 unfold frG
 refine gw_leave0 rfl rfl Tryd.func155 rfl ?_
 obtain ⟨a0, a1, a2, a3, a4, rfl⟩ : ∃ a b c d e, TG = #[a, b, c, d, e] := arr5 TG hTG
 simp only [rgG, bodyG, Tryd.f168, Option.getD_some]
 walk_nrm
 refine gw_region_end ?_
 refine gw_end ?_
 refine gw_unwind (md := .returning) (by simp) rfl Tryd.func169 (by kernel_rfl) rfl ?_
 rw [show (#[] ++ #[Value.pointer (some ⟨bx, 0, none⟩)] : Array Value) = #[Value.pointer (some ⟨bx, 0, none⟩)] from rfl, Tryd.enterD]
 simp only [Tryd.f169, Option.getD_some]
 refine gw_seq ?_
 refine gw_seq ?_
 refine gw_region ?_
 simp only [List.size_toArray, List.length_cons, List.length_nil, Nat.reduceAdd, Nat.zero_add, List.range, List.range.loop]
 refine gw_recover rfl rfl rfl rfl rfl ?_
 walk_nrm
 repeat (first
   | refine gw_seq ?_
   | refine gw_skip ?_
   | refine gw_block ?_
   | refine gw_loop ?_
   | refine gw_inLoop ?_
   | refine gw_inBlock ?_
   | refine gw_region_end ?_
   | refine gw_label ?_
   | refine gw_ret ?_
   | (refine gw_region ?_; simp only [List.size_toArray, List.length_cons, List.length_nil, Nat.reduceAdd, Nat.zero_add, List.range, List.range.loop])
   | refine gw_exit rfl ?_
   | refine gw_yes rfl ?_
   | refine gw_no rfl ?_
   | (refine gw_op rfl rfl (by k_ne) (fun wq rq iq Kq hKq => ?_)
      go_simp
      refine hKq _ ?_ ?_
      · intro eq heq
        have hmq := mem_listed heq
        simp [go_sem, *] at hmq
      clear hKq Kq rq iq wq
      try w_num)
   | (refine gw_unwanted rfl rfl ?_; walk_nrm)
   | (refine gw_defer rfl rfl (by k_ne) rfl ?_; walk_nrm))
 refine gw_val (v := .bool false) rfl rfl (by k_ne) (fun w => by kernel_rfl) (fun w => by kernel_rfl) ?_
 walk_nrm
 repeat (first
   | refine gw_seq ?_
   | refine gw_skip ?_
   | refine gw_block ?_
   | refine gw_loop ?_
   | refine gw_inLoop ?_
   | refine gw_inBlock ?_
   | refine gw_region_end ?_
   | refine gw_label ?_
   | refine gw_ret ?_
   | (refine gw_region ?_; simp only [List.size_toArray, List.length_cons, List.length_nil, Nat.reduceAdd, Nat.zero_add, List.range, List.range.loop])
   | refine gw_exit rfl ?_
   | refine gw_yes rfl ?_
   | refine gw_no rfl ?_
   | (refine gw_op rfl rfl (by k_ne) (fun wq rq iq Kq hKq => ?_)
      go_simp
      refine hKq _ ?_ ?_
      · intro eq heq
        have hmq := mem_listed heq
        simp [go_sem, *] at hmq
      clear hKq Kq rq iq wq
      try w_num)
   | (refine gw_unwanted rfl rfl ?_; walk_nrm)
   | (refine gw_defer rfl rfl (by k_ne) rfl ?_; walk_nrm))
 refine gw_op rfl rfl (by k_ne) (fun wq rq iq Kq hKq => ?_)
 have hl := (hw.rely rq).at.2.2.2
 go_simp
 refine hKq _ ?_ ?_
 · intro eq heq
   have hmq := mem_listed heq
   simp [go_sem, *] at hmq
   subst hmq
   exact evOk_rd (.inl hw.mem.2.2.2)
 clear hKq Kq hl rq iq wq
 refine gw_call rfl rfl (by k_ne) rfl H.f_done (nm_done wgL) rfl ?_
 walk_nrmf doneFn
 refine doneW (L := wgL) (qt := 5) H hL hw.mem.2.2.2 ?_ _ hI (h0 bx) hw.at.2.2.2
 q_c stepG_region_end
 q_c stepG_end
 refine QuitsD.leaveD rfl rfl Tryd.func169 rfl rfl ?_
 exact quits_bottom rfl Tryd.func168 rfl
set_option maxRecDepth 100000 in
set_option maxHeartbeats 4000000 in
theorem headA_born (hB : ∀ S g W M, HeadA F b8 b9 Bh fh hc Res S g W M → F.Head S g W M) (hw : WF F b8 b9 Bh bx fh hc Res S W) {by_ : Nat} (sy : S by_) (cy : ∀ W1, RelyS S (fun _ => False) W W1 → W1.cell? ⟨by_, 0, none⟩ = some (.func (.func 155) #[] #[.pointer (some ⟨b8, 0, none⟩), .pointer (some ⟨Bh, 0, none⟩), .pointer (some ⟨b9, 0, none⟩)])) :
   F.Go false S (F.Head S) (born Tryd.prog { target := .fn (.func 168) #[.pointer (some ⟨bx, 0, none⟩), .pointer (some ⟨by_, 0, none⟩)], args := #[] }) W (fun _ => False) := by
 refine gw_born Tryd.func168 (by kernel_rfl) rfl ?_
 rw [enter_atD (fn := Tryd.f168) (c := (Tryd.f168).body.getD .skip) _ Tryd.func168 rfl]
 simp only [Tryd.f168, Option.getD_some]
 walk_nrm
 repeat (first
   | refine gw_seq ?_
   | refine gw_skip ?_
   | refine gw_block ?_
   | refine gw_loop ?_
   | refine gw_inLoop ?_
   | refine gw_inBlock ?_
   | refine gw_region_end ?_
   | refine gw_label ?_
   | refine gw_ret ?_
   | (refine gw_region ?_; simp only [List.size_toArray, List.length_cons, List.length_nil, Nat.reduceAdd, Nat.zero_add, List.range, List.range.loop])
   | refine gw_exit rfl ?_
   | refine gw_yes rfl ?_
   | refine gw_no rfl ?_
   | (refine gw_op rfl rfl (by k_ne) (fun wq rq iq Kq hKq => ?_)
      go_simp
      refine hKq _ ?_ ?_
      · intro eq heq
        have hmq := mem_listed heq
        simp [go_sem, *] at hmq
      clear hKq Kq rq iq wq
      try w_num)
   | (refine gw_unwanted rfl rfl ?_; walk_nrm)
   | (refine gw_defer rfl rfl (by k_ne) rfl ?_; walk_nrm))
 refine gw_val (v := .func (.func 169) #[] #[.pointer (some ⟨bx, 0, none⟩)]) rfl rfl (by k_ne) (fun w => by kernel_rfl) (fun w => by kernel_rfl) ?_
 walk_nrm
 repeat (first
   | refine gw_seq ?_
   | refine gw_skip ?_
   | refine gw_block ?_
   | refine gw_loop ?_
   | refine gw_inLoop ?_
   | refine gw_inBlock ?_
   | refine gw_region_end ?_
   | refine gw_label ?_
   | refine gw_ret ?_
   | (refine gw_region ?_; simp only [List.size_toArray, List.length_cons, List.length_nil, Nat.reduceAdd, Nat.zero_add, List.range, List.range.loop])
   | refine gw_exit rfl ?_
   | refine gw_yes rfl ?_
   | refine gw_no rfl ?_
   | (refine gw_op rfl rfl (by k_ne) (fun wq rq iq Kq hKq => ?_)
      go_simp
      refine hKq _ ?_ ?_
      · intro eq heq
        have hmq := mem_listed heq
        simp [go_sem, *] at hmq
      clear hKq Kq rq iq wq
      try w_num)
   | (refine gw_unwanted rfl rfl ?_; walk_nrm)
   | (refine gw_defer rfl rfl (by k_ne) rfl ?_; walk_nrm))
 refine gw_deferv (first := #[]) (cap := #[.pointer (some ⟨bx, 0, none⟩)]) rfl rfl (by k_ne) rfl rfl ?_
 walk_nrm
 repeat (first
   | refine gw_seq ?_
   | refine gw_skip ?_
   | refine gw_block ?_
   | refine gw_loop ?_
   | refine gw_inLoop ?_
   | refine gw_inBlock ?_
   | refine gw_region_end ?_
   | refine gw_label ?_
   | refine gw_ret ?_
   | (refine gw_region ?_; simp only [List.size_toArray, List.length_cons, List.length_nil, Nat.reduceAdd, Nat.zero_add, List.range, List.range.loop])
   | refine gw_exit rfl ?_
   | refine gw_yes rfl ?_
   | refine gw_no rfl ?_
   | (refine gw_op rfl rfl (by k_ne) (fun wq rq iq Kq hKq => ?_)
      go_simp
      refine hKq _ ?_ ?_
      · intro eq heq
        have hmq := mem_listed heq
        simp [go_sem, *] at hmq
      clear hKq Kq rq iq wq
      try w_num)
   | (refine gw_unwanted rfl rfl ?_; walk_nrm)
   | (refine gw_defer rfl rfl (by k_ne) rfl ?_; walk_nrm))
 refine gw_op rfl rfl (by k_ne) (fun wq rq iq Kq hKq => ?_)
 have hl := cy _ rq
 go_simp
 refine hKq _ ?_ ?_
 · intro eq heq
   have hmq := mem_listed heq
   simp [go_sem, *] at hmq
   subst hmq
   exact evOk_rd (.inl sy)
 clear hKq Kq hl rq iq wq
 refine gw_callv (first := #[]) (cap := #[.pointer (some ⟨b8, 0, none⟩), .pointer (some ⟨Bh, 0, none⟩), .pointer (some ⟨b9, 0, none⟩)]) rfl rfl (by k_ne) rfl rfl Tryd.func155 (by kernel_rfl) rfl ?_
 walk_nrm
 rw [enter_at (fn := Tryd.f155) (c := (Tryd.f155).body.getD .skip) _ Tryd.func155 rfl]
 simp only [Tryd.f155, Option.getD_some]
 walk_nrm
 repeat (first
   | refine gw_seq ?_
   | refine gw_skip ?_
   | refine gw_block ?_
   | refine gw_loop ?_
   | refine gw_inLoop ?_
   | refine gw_inBlock ?_
   | refine gw_region_end ?_
   | refine gw_label ?_
   | refine gw_ret ?_
   | (refine gw_region ?_; simp only [List.size_toArray, List.length_cons, List.length_nil, Nat.reduceAdd, Nat.zero_add, List.range, List.range.loop])
   | refine gw_exit rfl ?_
   | refine gw_yes rfl ?_
   | refine gw_no rfl ?_
   | (refine gw_op rfl rfl (by k_ne) (fun wq rq iq Kq hKq => ?_)
      go_simp
      refine hKq _ ?_ ?_
      · intro eq heq
        have hmq := mem_listed heq
        simp [go_sem, *] at hmq
      clear hKq Kq rq iq wq
      try w_num)
   | (refine gw_unwanted rfl rfl ?_; walk_nrm)
   | (refine gw_defer rfl rfl (by k_ne) rfl ?_; walk_nrm))
 refine gw_op rfl rfl (by k_ne) (fun wq rq iq Kq hKq => ?_)
 have hl := (hw.rely rq).at.1
 go_simp
 refine hKq _ ?_ ?_
 · intro eq heq
   have hmq := mem_listed heq
   simp [go_sem, *] at hmq
   subst hmq
   exact evOk_rd (.inl hw.mem.1)
 clear hKq Kq hl rq iq wq
 repeat (first
   | refine gw_seq ?_
   | refine gw_skip ?_
   | refine gw_block ?_
   | refine gw_loop ?_
   | refine gw_inLoop ?_
   | refine gw_inBlock ?_
   | refine gw_region_end ?_
   | refine gw_label ?_
   | refine gw_ret ?_
   | (refine gw_region ?_; simp only [List.size_toArray, List.length_cons, List.length_nil, Nat.reduceAdd, Nat.zero_add, List.range, List.range.loop])
   | refine gw_exit rfl ?_
   | refine gw_yes rfl ?_
   | refine gw_no rfl ?_)
 exact GoesW.stop fun W1 r _ => hB _ _ _ _ ⟨fun _ q => q.elim, bx, _, _, hw.rely r, rfl, rfl, rfl, rfl, rfl, rfl, rfl⟩
end
end Go.Proofs.YtajnfkmkombajabDoor
namespace Go.Proofs.YtajnfkmkombajabDoor
open Go Go.Conc Go.ConcN Go.RowKit Go.Conc.Lib Go.ConcR.Gen Go.ConcN.Gen
open Go.ConcR (KK wgBlock WgAt stA smA)
section
variable {F : Farm Tryd.prog} {b8 b9 Bh : Nat} {fh : FuncId} {hc : Array Value} {Res : Nat → Value → Value → World → (Nat → Prop) → Prop} {S M : Nat → Prop} {W : World}
def clA (b8 Bh b9 : Nat) : Value := .func (.func 155) #[] #[.pointer (some ⟨b8, 0, none⟩), .pointer (some ⟨Bh, 0, none⟩), .pointer (some ⟨b9, 0, none⟩)]
def nxS (F : Farm Tryd.prog) : Nat → (Nat → Prop) → Goroutine → World → (Nat → Prop) → Prop
 | 0, S => F.Turn S 0 0 fun _ => False
 | r + 1, S => F.KdS (F.Starts r) S
theorem starts_go {r : Nat} {S : Nat → Prop} {g : Goroutine} {W : World} {M : Nat → Prop} : F.Starts r S g W M ↔ F.Go true S (nxS F r S) g W M := by cases r <;> exact Iff.rfl
set_option maxRecDepth 100000 in
set_option maxHeartbeats 4000000 in
theorem goStart (hty : F.ty = 198) (hB : ∀ S g W M, HeadA F b8 b9 Bh fh hc Res S g W M → F.Head S g W M) (r : Nat)
   (hN : ¬ S F.Wg ∧ ¬ M F.Wg ∧ F.Wg < W.heap.size) (m8 : F.pub S M b8) (m9 : F.pub S M b9) (mh : F.pub S M Bh)
   (c8 : W.cell? ⟨b8, 0, none⟩ = some (.chan (some F.Td))) (c9 : W.cell? ⟨b9, 0, none⟩ = some (.chan (some F.Bk))) (ch : W.cell? ⟨Bh, 0, none⟩ = some (.func (.func fh) #[] hc))
   (hpr : ∀ b, F.priv b → b < W.heap.size)
   (job : ∀ S' W', (∀ b, F.pub S M b → S' b) → RelyS S M W W' → Job F fh hc Res S' W') (hst : ∀ i out err W W1 M', Res i out err W M' → RelyS (F.pub S M) M' W W1 → Res i out err W1 M')
   {b₀ : Frame} {a₀ : Act} {ops₀ : Array Oper} {i₀ : Nat} {rest₀ : List Nat} {k₀ : List Item} {cs : List Frame}
   (hT : ∀ W' bx by_, RelyS S M W W' → W.heap.size ≤ bx → W.heap.size ≤ by_ → bx < W'.heap.size → by_ < W'.heap.size →
     F.Starts r (F.pub S (fun b => (M b ∨ b = bx) ∨ b = by_)) (G (b₀.at (a₀.put ((ops₀[i₀]?).bind (·.dst)) (.tuple #[])) (.inRegion ops₀ rest₀ :: k₀)) cs) W' (fun b => ((M b ∨ b = bx) ∨ b = by_) ∧ F.priv b)) :
   F.Go true S (F.KdS (F.Starts r) S) (G (Frame.enter Tryd.prog 154 #[.pointer (some ⟨F.Wg, 0, none⟩), clA b8 Bh b9] .normal) (b₀.at a₀ (.inRegion ops₀ (i₀ :: rest₀) :: k₀) :: cs)) W M := by
 have H := wgLib
 rw [enter_at (fn := Tryd.f154) (c := (Tryd.f154).body.getD .skip) _ Tryd.func154 rfl]
 simp only [Tryd.f154, Option.getD_some]
 walk_nrm
 repeat (first
   | refine gw_seq ?_
   | refine gw_skip ?_
   | refine gw_block ?_
   | refine gw_loop ?_
   | refine gw_inLoop ?_
   | refine gw_inBlock ?_
   | refine gw_region_end ?_
   | refine gw_label ?_
   | refine gw_ret ?_
   | (refine gw_region ?_; simp only [List.size_toArray, List.length_cons, List.length_nil, Nat.reduceAdd, Nat.zero_add, List.range, List.range.loop])
   | refine gw_exit rfl ?_
   | refine gw_yes rfl ?_
   | refine gw_no rfl ?_)
 refine gw_push (v := fun B => .pointer (some ⟨B, 0, none⟩)) (ob := .cells #[.pointer (some ⟨F.Wg, 0, none⟩)] 219 (0, 0)) rfl rfl (by k_ne) (fun w _ _ => by go_simp) (fun w _ _ e he => by have hm := mem_listed he; simp [go_sem] at hm) (fun W1 bx r1 l1 g1 x1 => ?_)
 walk_nrm
 refine gw_push (v := fun B => .pointer (some ⟨B, 0, none⟩)) (ob := .cells #[clA b8 Bh b9] 1 (0, 0)) rfl rfl (by k_ne) (fun w _ _ => by go_simp; rfl) (fun w _ _ e he => by have hm := mem_listed he; simp [go_sem] at hm) (fun W2 by_ r2 l2 g2 x2 => ?_)
 walk_nrm
 repeat (first
   | refine gw_seq ?_
   | refine gw_skip ?_
   | refine gw_block ?_
   | refine gw_loop ?_
   | refine gw_inLoop ?_
   | refine gw_inBlock ?_
   | refine gw_region_end ?_
   | refine gw_label ?_
   | refine gw_ret ?_
   | (refine gw_region ?_; simp only [List.size_toArray, List.length_cons, List.length_nil, Nat.reduceAdd, Nat.zero_add, List.range, List.range.loop])
   | refine gw_exit rfl ?_
   | refine gw_yes rfl ?_
   | refine gw_no rfl ?_)
 have s1 := r1.size
 have s2 := r2.size
 have k1 : W1.cell? ⟨bx, 0, none⟩ = some (.pointer (some ⟨F.Wg, 0, none⟩)) := by unfold World.cell?; rw [x1]; rfl
 have k2 : W2.cell? ⟨bx, 0, none⟩ = some (.pointer (some ⟨F.Wg, 0, none⟩)) := cell_rely r2 (.inr (.inr rfl)) k1
 have k3 : W2.cell? ⟨by_, 0, none⟩ = some (clA b8 Bh b9) := by unfold World.cell?; rw [x2]; rfl
 have r02 : RelyS S M W W2 := r1.trans (r2.mono fun b q => q.imp id .inl)
 refine gw_op rfl rfl (by k_ne) (fun wq rq iq Kq hKq => ?_)
 have hl := cell_rely rq (.inr (.inl (.inr rfl))) k2
 go_simp
 refine hKq _ ?_ ?_
 · intro eq heq
   have hmq := mem_listed heq
   simp [go_sem, *] at hmq
   subst hmq
   exact evOk_rd (.inr (.inl (.inr rfl)))
 clear hKq Kq hl rq iq wq
 refine gw_call rfl rfl (by k_ne) rfl H.f_add (nm_add wgL) rfl ?_
 walk_nrmf addFn
 refine addPosW H hty ⟨hN.1, fun q => ?_⟩ _ ?_
 · rcases q with (q | q) | q
   · exact hN.2.1 q
   · omega
   · omega
 walk_nrm
 repeat (first
   | refine gw_seq ?_
   | refine gw_skip ?_
   | refine gw_block ?_
   | refine gw_loop ?_
   | refine gw_inLoop ?_
   | refine gw_inBlock ?_
   | refine gw_region_end ?_
   | refine gw_label ?_
   | refine gw_ret ?_
   | (refine gw_region ?_; simp only [List.size_toArray, List.length_cons, List.length_nil, Nat.reduceAdd, Nat.zero_add, List.range, List.range.loop])
   | refine gw_exit rfl ?_
   | refine gw_yes rfl ?_
   | refine gw_no rfl ?_)
 refine gw_val (v := .func (.func 168) #[] #[.pointer (some ⟨bx, 0, none⟩), .pointer (some ⟨by_, 0, none⟩)]) rfl rfl (by k_ne) (fun w => by kernel_rfl) (fun w => by kernel_rfl) ?_
 walk_nrm
 repeat (first
   | refine gw_seq ?_
   | refine gw_skip ?_
   | refine gw_block ?_
   | refine gw_loop ?_
   | refine gw_inLoop ?_
   | refine gw_inBlock ?_
   | refine gw_region_end ?_
   | refine gw_label ?_
   | refine gw_ret ?_
   | (refine gw_region ?_; simp only [List.size_toArray, List.length_cons, List.length_nil, Nat.reduceAdd, Nat.zero_add, List.range, List.range.loop])
   | refine gw_exit rfl ?_
   | refine gw_yes rfl ?_
   | refine gw_no rfl ?_)
 refine GoesW.stop fun W3 r3 _ => ⟨rfl, _, _, stepG_gov rfl rfl (by k_ne) rfl rfl W3, rfl, ?_, ?_⟩
 · have r03 : RelyS S M W W3 := r02.trans (r3.mono fun b q => q.imp id (fun q => .inl (.inl q)))
   have hsub : ∀ b, F.pub S M b → F.pub S (fun x => (M x ∨ x = bx) ∨ x = by_) b := fun b q => q.imp id fun q => ⟨.inl (.inl q.1), q.2⟩
   have px : F.pub S (fun x => (M x ∨ x = bx) ∨ x = by_) bx := .inr ⟨.inl (.inr rfl), fun q => by have := hpr _ q; omega⟩
   have py : F.pub S (fun x => (M x ∨ x = bx) ∨ x = by_) by_ := .inr ⟨.inr rfl, fun q => by have := hpr _ q; omega⟩
   have mm : ∀ b, F.pub S M b → S b ∨ M b := fun b q => q.imp id And.left
   have k4 : W3.cell? ⟨bx, 0, none⟩ = some (.pointer (some ⟨F.Wg, 0, none⟩)) := cell_rely r3 (.inr (.inl (.inr rfl))) k2
   have k5 : W3.cell? ⟨by_, 0, none⟩ = some (clA b8 Bh b9) := cell_rely r3 (.inr (.inr rfl)) k3
   rw [show ∀ f : Operand → Value, (#[] ++ Array.map f #[] : Array Value) = #[] from fun f => by simp]
   exact headA_born hB ⟨W3, ⟨hsub _ m8, hsub _ m9, hsub _ mh, px, cell_rely r03 (mm _ m8) c8, cell_rely r03 (mm _ m9) c9, cell_rely r03 (mm _ mh) ch, k4, job _ _ hsub r03, fun i out err W W1 M' h r => hst i out err W W1 M' h (r.mono fun b q => q.imp (hsub b) id)⟩, RelyS.refl _ _ _⟩ py fun W4 r4 => cell_rely r4 (.inl py) k5
 · rw [starts_go]
   walk_nrm
   repeat (first
     | refine gw_seq ?_
     | refine gw_skip ?_
     | refine gw_block ?_
     | refine gw_loop ?_
     | refine gw_inLoop ?_
     | refine gw_inBlock ?_
     | refine gw_region_end ?_
     | refine gw_label ?_
     | refine gw_ret ?_
     | (refine gw_region ?_; simp only [List.size_toArray, List.length_cons, List.length_nil, Nat.reduceAdd, Nat.zero_add, List.range, List.range.loop])
     | refine gw_exit rfl ?_
     | refine gw_yes rfl ?_
     | refine gw_no rfl ?_)
   refine gw_end ?_
   refine gw_leave0 rfl rfl Tryd.func154 rfl ?_
   have s3 := r3.size
   refine starts_go.mp ?_
   exact hT _ _ _ (r02.trans (r3.mono fun b q => q.imp id (fun q => .inl (.inl q)))) l1 (by omega) (by omega) (by omega)
end
end Go.Proofs.YtajnfkmkombajabDoor
