/-
  side.all: the caller starts all its workers.
  side.all: the two rows are made, in whatever order.
  side.all: from the second loop's head to the select.
-/
import Derived.Test.YtajnfkmkombajabDoorQSD17
set_option linter.unusedVariables false
set_option linter.unusedSimpArgs false
namespace Go.Proofs.YtajnfkmkombajabDoor
open Go Go.Conc Go.ConcN Go.RowKit Go.Conc.Lib Go.ConcR.Gen Go.ConcN.Gen
open Go.ConcR (KK wgBlock WgAt stA smA)
noncomputable def bodyC : Code := (Tryd.f138.body).getD .skip
noncomputable def lp1 : Code := match bodyC with | .seq _ (.seq _ (.seq _ (.seq (.seq _ (.block _ (.loop c))) _))) => c | _ => .skip
noncomputable def restC : Code := match bodyC with | .seq _ (.seq _ (.seq _ (.seq _ c))) => c | _ => .skip
noncomputable def lp2 : Code := match restC with | .seq _ (.seq (.seq _ (.block _ (.loop c))) _) => c | _ => .skip
noncomputable def endC : Code := match restC with | .seq _ (.seq _ c) => c | _ => .skip
theorem cons_len {n : Nat} {l : List Value} (h : l.length = n + 1) : ∃ x l', l = x :: l' ∧ l'.length = n := by
 cases l with
 | nil => simp at h
 | cons x l => exact ⟨x, l, rfl, by simpa using h⟩
theorem arr62 (T : Array Value) (h : T.size = 62) : ∃ v0 v1 v2 v3 v4 v5 v6 v7 v8 v9 v10 v11 v12 v13 v14 v15 v16 v17 v18 v19 v20 v21 v22 v23 v24 v25 v26 v27 v28 v29 v30 v31 v32 v33 v34 v35 v36 v37 v38 v39 v40 v41 v42 v43 v44 v45 v46 v47 v48 v49 v50 v51 v52 v53 v54 v55 v56 v57 v58 v59 v60 v61, T = (List.toArray (v0 :: v1 :: v2 :: v3 :: v4 :: v5 :: v6 :: v7 :: v8 :: v9 :: v10 :: v11 :: v12 :: v13 :: v14 :: v15 :: v16 :: v17 :: v18 :: v19 :: v20 :: v21 :: v22 :: v23 :: v24 :: v25 :: v26 :: v27 :: v28 :: v29 :: v30 :: v31 :: v32 :: v33 :: v34 :: v35 :: v36 :: v37 :: v38 :: v39 :: v40 :: v41 :: v42 :: v43 :: v44 :: v45 :: v46 :: v47 :: v48 :: v49 :: v50 :: v51 :: v52 :: v53 :: v54 :: v55 :: v56 :: v57 :: v58 :: v59 :: v60 :: v61 :: [])) := by
 obtain ⟨l⟩ := T
 simp only [List.size_toArray] at h
 obtain ⟨v0, l0, rfl, h0⟩ := cons_len h
 obtain ⟨v1, l1, rfl, h1⟩ := cons_len h0
 obtain ⟨v2, l2, rfl, h2⟩ := cons_len h1
 obtain ⟨v3, l3, rfl, h3⟩ := cons_len h2
 obtain ⟨v4, l4, rfl, h4⟩ := cons_len h3
 obtain ⟨v5, l5, rfl, h5⟩ := cons_len h4
 obtain ⟨v6, l6, rfl, h6⟩ := cons_len h5
 obtain ⟨v7, l7, rfl, h7⟩ := cons_len h6
 obtain ⟨v8, l8, rfl, h8⟩ := cons_len h7
 obtain ⟨v9, l9, rfl, h9⟩ := cons_len h8
 obtain ⟨v10, l10, rfl, h10⟩ := cons_len h9
 obtain ⟨v11, l11, rfl, h11⟩ := cons_len h10
 obtain ⟨v12, l12, rfl, h12⟩ := cons_len h11
 obtain ⟨v13, l13, rfl, h13⟩ := cons_len h12
 obtain ⟨v14, l14, rfl, h14⟩ := cons_len h13
 obtain ⟨v15, l15, rfl, h15⟩ := cons_len h14
 obtain ⟨v16, l16, rfl, h16⟩ := cons_len h15
 obtain ⟨v17, l17, rfl, h17⟩ := cons_len h16
 obtain ⟨v18, l18, rfl, h18⟩ := cons_len h17
 obtain ⟨v19, l19, rfl, h19⟩ := cons_len h18
 obtain ⟨v20, l20, rfl, h20⟩ := cons_len h19
 obtain ⟨v21, l21, rfl, h21⟩ := cons_len h20
 obtain ⟨v22, l22, rfl, h22⟩ := cons_len h21
 obtain ⟨v23, l23, rfl, h23⟩ := cons_len h22
 obtain ⟨v24, l24, rfl, h24⟩ := cons_len h23
 obtain ⟨v25, l25, rfl, h25⟩ := cons_len h24
 obtain ⟨v26, l26, rfl, h26⟩ := cons_len h25
 obtain ⟨v27, l27, rfl, h27⟩ := cons_len h26
 obtain ⟨v28, l28, rfl, h28⟩ := cons_len h27
 obtain ⟨v29, l29, rfl, h29⟩ := cons_len h28
 obtain ⟨v30, l30, rfl, h30⟩ := cons_len h29
 obtain ⟨v31, l31, rfl, h31⟩ := cons_len h30
 obtain ⟨v32, l32, rfl, h32⟩ := cons_len h31
 obtain ⟨v33, l33, rfl, h33⟩ := cons_len h32
 obtain ⟨v34, l34, rfl, h34⟩ := cons_len h33
 obtain ⟨v35, l35, rfl, h35⟩ := cons_len h34
 obtain ⟨v36, l36, rfl, h36⟩ := cons_len h35
 obtain ⟨v37, l37, rfl, h37⟩ := cons_len h36
 obtain ⟨v38, l38, rfl, h38⟩ := cons_len h37
 obtain ⟨v39, l39, rfl, h39⟩ := cons_len h38
 obtain ⟨v40, l40, rfl, h40⟩ := cons_len h39
 obtain ⟨v41, l41, rfl, h41⟩ := cons_len h40
 obtain ⟨v42, l42, rfl, h42⟩ := cons_len h41
 obtain ⟨v43, l43, rfl, h43⟩ := cons_len h42
 obtain ⟨v44, l44, rfl, h44⟩ := cons_len h43
 obtain ⟨v45, l45, rfl, h45⟩ := cons_len h44
 obtain ⟨v46, l46, rfl, h46⟩ := cons_len h45
 obtain ⟨v47, l47, rfl, h47⟩ := cons_len h46
 obtain ⟨v48, l48, rfl, h48⟩ := cons_len h47
 obtain ⟨v49, l49, rfl, h49⟩ := cons_len h48
 obtain ⟨v50, l50, rfl, h50⟩ := cons_len h49
 obtain ⟨v51, l51, rfl, h51⟩ := cons_len h50
 obtain ⟨v52, l52, rfl, h52⟩ := cons_len h51
 obtain ⟨v53, l53, rfl, h53⟩ := cons_len h52
 obtain ⟨v54, l54, rfl, h54⟩ := cons_len h53
 obtain ⟨v55, l55, rfl, h55⟩ := cons_len h54
 obtain ⟨v56, l56, rfl, h56⟩ := cons_len h55
 obtain ⟨v57, l57, rfl, h57⟩ := cons_len h56
 obtain ⟨v58, l58, rfl, h58⟩ := cons_len h57
 obtain ⟨v59, l59, rfl, h59⟩ := cons_len h58
 obtain ⟨v60, l60, rfl, h60⟩ := cons_len h59
 obtain ⟨v61, l61, rfl, h61⟩ := cons_len h60
 obtain rfl := List.length_eq_zero_iff.1 h61
 exact ⟨v0, v1, v2, v3, v4, v5, v6, v7, v8, v9, v10, v11, v12, v13, v14, v15, v16, v17, v18, v19, v20, v21, v22, v23, v24, v25, v26, v27, v28, v29, v30, v31, v32, v33, v34, v35, v36, v37, v38, v39, v40, v41, v42, v43, v44, v45, v46, v47, v48, v49, v50, v51, v52, v53, v54, v55, v56, v57, v58, v59, v60, v61, rfl⟩
structure Cf (F : Farm Tryd.prog) (b8 b9 Bh : Nat) (fh : FuncId) (hc : Array Value) (S0 : Nat → Prop) (K J : World → Prop) (S M : Nat → Prop) (W : World) : Prop where
 nW : ¬ S F.Wg ∧ ¬ M F.Wg ∧ F.Wg < W.heap.size
 nT : ¬ S F.Td ∧ ¬ M F.Td ∧ F.Td < W.heap.size
 m8 : F.pub S M b8
 m9 : F.pub S M b9
 mh : F.pub S M Bh
 c8 : W.cell? ⟨b8, 0, none⟩ = some (.chan (some F.Td))
 c9 : W.cell? ⟨b9, 0, none⟩ = some (.chan (some F.Bk))
 ch : W.cell? ⟨Bh, 0, none⟩ = some (.func (.func fh) #[] hc)
 prl : ∀ b, F.priv b → b < W.heap.size
 prm : ∀ b, F.priv b → M b
 s0 : ∀ b, S0 b → F.pub S M b
 k : K W
 j : J W
structure CfLaw (F : Farm Tryd.prog) (fh : FuncId) (hc : Array Value) (Res : Nat → Value → Value → World → (Nat → Prop) → Prop) (S0 : Nat → Prop) (K J : World → Prop) : Prop where
 ty : F.ty = 198
 hk : ∀ W W1, RelyS S0 F.priv W W1 → K W → K W1
 hj : ∀ W W1, RelyS S0 (fun _ => False) W W1 → J W → J W1
 job : ∀ S W, (∀ b, S0 b → S b) → F.Wg < W.heap.size ∧ F.Td < W.heap.size → J W → Job F fh hc Res S W
 stays : ∀ i out err W W1 M, Res i out err W M → RelyS S0 M W W1 → Res i out err W1 M
 resW : ∀ i out err W M, Res i out err W M → ¬ M F.Wg ∧ ¬ M F.Td
section
variable {F : Farm Tryd.prog} {b8 b9 Bh : Nat} {fh : FuncId} {hc : Array Value} {Res : Nat → Value → Value → World → (Nat → Prop) → Prop} {S0 : Nat → Prop} {K J : World → Prop} {S M : Nat → Prop} {W W1 : World}
theorem pub_or {b : Nat} (h : F.pub S M b) : S b ∨ M b := h.imp id And.left
theorem Cf.rely (L : CfLaw F fh hc Res S0 K J) (h : Cf F b8 b9 Bh fh hc S0 K J S M W) (r : RelyS S M W W1) : Cf F b8 b9 Bh fh hc S0 K J S M W1 :=
 ⟨⟨h.nW.1, h.nW.2.1, Nat.lt_of_lt_of_le h.nW.2.2 r.size⟩, ⟨h.nT.1, h.nT.2.1, Nat.lt_of_lt_of_le h.nT.2.2 r.size⟩, h.m8, h.m9, h.mh, cell_rely r (pub_or h.m8) h.c8, cell_rely r (pub_or h.m9) h.c9, cell_rely r (pub_or h.mh) h.ch, fun b q => Nat.lt_of_lt_of_le (h.prl b q) r.size, h.prm, h.s0,
   L.hk _ _ (r.mono fun b q => q.elim (fun q => pub_or (h.s0 b q)) fun q => .inr (h.prm b q)) h.k, L.hj _ _ (r.mono fun b q => q.elim (fun q => pub_or (h.s0 b q)) False.elim) h.j⟩
theorem Cf.more {M' : Nat → Prop} (h : Cf F b8 b9 Bh fh hc S0 K J S M W) (hm : ∀ b, M b → M' b) (hn : ¬ M' F.Wg ∧ ¬ M' F.Td) : Cf F b8 b9 Bh fh hc S0 K J S M' W := by
 have hp : ∀ b, F.pub S M b → F.pub S M' b := fun b q => q.imp id fun q => ⟨hm b q.1, q.2⟩
 exact ⟨⟨h.nW.1, hn.1, h.nW.2.2⟩, ⟨h.nT.1, hn.2, h.nT.2.2⟩, hp _ h.m8, hp _ h.m9, hp _ h.mh, h.c8, h.c9, h.ch, h.prl, fun b q => hm b (h.prm b q), fun b q => hp b (h.s0 b q), h.k, h.j⟩
theorem Cf.open (h : Cf F b8 b9 Bh fh hc S0 K J S M W) : Cf F b8 b9 Bh fh hc S0 K J (F.pub S M) (fun b => M b ∧ F.priv b) W :=
 ⟨⟨fun q => q.elim h.nW.1 fun q => h.nW.2.1 q.1, fun q => h.nW.2.1 q.1, h.nW.2.2⟩, ⟨fun q => q.elim h.nT.1 fun q => h.nT.2.1 q.1, fun q => h.nT.2.1 q.1, h.nT.2.2⟩, .inl h.m8, .inl h.m9, .inl h.mh, h.c8, h.c9, h.ch, h.prl, fun b q => ⟨h.prm b q, q⟩, fun b q => .inl (h.s0 b q), h.k, h.j⟩
noncomputable def at1 (cs : List Frame) (T : Array Value) : Goroutine := G ((base 138).at ⟨T, []⟩ [.code lp1, .inLoop lp1, .inBlock 0, .code restC]) cs
set_option maxRecDepth 100000 in
set_option maxHeartbeats 4000000 in
theorem allStarts (L : CfLaw F fh hc Res S0 K J) (hB : ∀ S g W M, HeadA F b8 b9 Bh fh hc Res S g W M → F.Head S g W M) {cs : List Frame} {n w : Nat} {f2 : Value} (hw : w < 9223372036854775807)
   (hZ : ∀ S M W T, T.size = 62 → T[0]? = some (.int .i64 n) ∧ T[1]? = some (.int .i64 w) ∧ T[2]? = some (f2) ∧ T[5]? = some (.pointer (some ⟨Bh, 0, none⟩)) ∧ T[8]? = some (.pointer (some ⟨b8, 0, none⟩)) ∧ T[9]? = some (.pointer (some ⟨b9, 0, none⟩)) ∧ T[10]? = some (.pointer (some ⟨F.Wg, 0, none⟩)) → Cf F b8 b9 Bh fh hc S0 K J S M W → F.Go true S (F.Turn S 0 0 fun _ => False) (G ((base 138).at ⟨T, []⟩ [.code restC]) cs) W M) :
   ∀ (r c : Nat) (S M : Nat → Prop) (W : World) (T : Array Value), c + r = w → T.size = 62 → (T[0]? = some (.int .i64 n) ∧ T[1]? = some (.int .i64 w) ∧ T[2]? = some (f2) ∧ T[5]? = some (.pointer (some ⟨Bh, 0, none⟩)) ∧ T[8]? = some (.pointer (some ⟨b8, 0, none⟩)) ∧ T[9]? = some (.pointer (some ⟨b9, 0, none⟩)) ∧ T[10]? = some (.pointer (some ⟨F.Wg, 0, none⟩))) ∧ T[17]? = some (.int .i64 w) ∧ T[18]? = some (.int .i64 c) → Cf F b8 b9 Bh fh hc S0 K J S M W → F.Starts r S (at1 cs T) W M := by
 intro r
 induction r with
 | zero =>
   intro c S M W T hcr hT hs hC
   obtain rfl : c = w := by omega
   have hz := fun T hT hs => hZ S M W T hT hs hC
   clear hZ
   obtain ⟨v0, v1, v2, v3, v4, v5, v6, v7, v8, v9, v10, v11, v12, v13, v14, v15, v16, v17, v18, v19, v20, v21, v22, v23, v24, v25, v26, v27, v28, v29, v30, v31, v32, v33, v34, v35, v36, v37, v38, v39, v40, v41, v42, v43, v44, v45, v46, v47, v48, v49, v50, v51, v52, v53, v54, v55, v56, v57, v58, v59, v60, v61, rfl⟩ := arr62 T hT
   simp only [List.getElem?_toArray, List.getElem?_cons_zero, List.getElem?_cons_succ, Option.some.injEq] at hs
   obtain ⟨⟨rfl, rfl, rfl, rfl, rfl, rfl, rfl⟩, rfl, rfl⟩ := hs
   unfold at1
   revert hz
   generalize restC = rc
   intro hz
   refine starts_go.mpr ?_
   simp only [nxS, lp1, bodyC, Tryd.f138, Option.getD_some]
   repeat (first
     | refine gw_seq ?_
     | refine gw_skip ?_
     | refine gw_block ?_
     | refine gw_loop ?_
     | refine gw_inLoop ?_
     | refine gw_inBlock ?_
     | refine gw_region_end ?_
     | refine gw_label ?_
     | refine gw_ret ?_
     | (refine gw_region ?_; simp only [List.size_toArray, List.length_cons, List.length_nil, Nat.reduceAdd, Nat.zero_add, List.range, List.range.loop])
     | refine gw_exit rfl ?_
     | refine gw_yes rfl ?_
     | refine gw_no rfl ?_
     | (refine gw_op rfl rfl (by k_ne) (fun wq rq iq Kq hKq => ?_)
        go_simp
        refine hKq _ ?_ ?_
        · intro eq heq
          have hmq := mem_listed heq
          simp [go_sem, *] at hmq
        clear hKq Kq rq iq wq
        try w_num)
     | (refine gw_unwanted rfl rfl ?_; walk_nrm)
     | (refine gw_defer rfl rfl (by k_ne) rfl ?_; walk_nrm))
   exact hz _ rfl ⟨rfl, rfl, rfl, rfl, rfl, rfl, rfl⟩
 | succ r ih =>
   intro c S M W T hcr hT hs hC
   obtain ⟨v0, v1, v2, v3, v4, v5, v6, v7, v8, v9, v10, v11, v12, v13, v14, v15, v16, v17, v18, v19, v20, v21, v22, v23, v24, v25, v26, v27, v28, v29, v30, v31, v32, v33, v34, v35, v36, v37, v38, v39, v40, v41, v42, v43, v44, v45, v46, v47, v48, v49, v50, v51, v52, v53, v54, v55, v56, v57, v58, v59, v60, v61, rfl⟩ := arr62 T hT
   simp only [List.getElem?_toArray, List.getElem?_cons_zero, List.getElem?_cons_succ, Option.some.injEq] at hs
   obtain ⟨⟨rfl, rfl, rfl, rfl, rfl, rfl, rfl⟩, rfl, rfl⟩ := hs
   refine starts_go.mpr ?_
   unfold at1
   generalize hrc : restC = rc
   generalize hlq : lp1 = lq
   rw [show Item.code lq = Item.code lp1 by rw [hlq]]
   simp only [nxS, lp1, bodyC, Tryd.f138, Option.getD_some]
   repeat (first
     | refine gw_seq ?_
     | refine gw_skip ?_
     | refine gw_block ?_
     | refine gw_loop ?_
     | refine gw_inLoop ?_
     | refine gw_inBlock ?_
     | refine gw_region_end ?_
     | refine gw_label ?_
     | refine gw_ret ?_
     | (refine gw_region ?_; simp only [List.size_toArray, List.length_cons, List.length_nil, Nat.reduceAdd, Nat.zero_add, List.range, List.range.loop])
     | refine gw_exit rfl ?_
     | refine gw_yes rfl ?_
     | refine gw_no rfl ?_
     | (refine gw_op rfl rfl (by k_ne) (fun wq rq iq Kq hKq => ?_)
        go_simp
        refine hKq _ ?_ ?_
        · intro eq heq
          have hmq := mem_listed heq
          simp [go_sem, *] at hmq
        clear hKq Kq rq iq wq
        try w_num)
     | (refine gw_unwanted rfl rfl ?_; walk_nrm)
     | (refine gw_defer rfl rfl (by k_ne) rfl ?_; walk_nrm))
   rw [show decide (c < w) = true by simp; omega]
   repeat (first
     | refine gw_seq ?_
     | refine gw_skip ?_
     | refine gw_block ?_
     | refine gw_loop ?_
     | refine gw_inLoop ?_
     | refine gw_inBlock ?_
     | refine gw_region_end ?_
     | refine gw_label ?_
     | refine gw_ret ?_
     | (refine gw_region ?_; simp only [List.size_toArray, List.length_cons, List.length_nil, Nat.reduceAdd, Nat.zero_add, List.range, List.range.loop])
     | refine gw_exit rfl ?_
     | refine gw_yes rfl ?_
     | refine gw_no rfl ?_)
   refine gw_val (v := clA b8 Bh b9) rfl rfl (by k_ne) (fun w => by kernel_rfl) (fun w => by kernel_rfl) ?_
   walk_nrm
   refine gw_callv (first := #[]) (cap := #[]) rfl rfl (by k_ne) rfl rfl Tryd.func154 (by kernel_rfl) rfl ?_
   walk_nrm
   refine goStart L.ty hB r hC.nW hC.m8 hC.m9 hC.mh hC.c8 hC.c9 hC.ch hC.prl (fun S' W' hS r' => L.job _ _ (fun b q => hS b (hC.s0 b q)) ⟨Nat.lt_of_lt_of_le hC.nW.2.2 r'.size, Nat.lt_of_lt_of_le hC.nT.2.2 r'.size⟩ (L.hj _ _ (r'.mono fun b q => q.elim (fun q => pub_or (hC.s0 b q)) False.elim) hC.j)) (fun i out err W W1 M' h r' => L.stays i out err W W1 M' h (r'.mono fun b q => q.imp (hC.s0 b) id)) (fun W' bx by_ r' l1 l2 l3 l4 => ?_)
   walk_nrm
   refine starts_go.mpr ?_
   repeat (first
     | refine gw_seq ?_
     | refine gw_skip ?_
     | refine gw_block ?_
     | refine gw_loop ?_
     | refine gw_inLoop ?_
     | refine gw_inBlock ?_
     | refine gw_region_end ?_
     | refine gw_label ?_
     | refine gw_ret ?_
     | (refine gw_region ?_; simp only [List.size_toArray, List.length_cons, List.length_nil, Nat.reduceAdd, Nat.zero_add, List.range, List.range.loop])
     | refine gw_exit rfl ?_
     | refine gw_yes rfl ?_
     | refine gw_no rfl ?_
     | (refine gw_op rfl rfl (by k_ne) (fun wq rq iq Kq hKq => ?_)
        go_simp
        refine hKq _ ?_ ?_
        · intro eq heq
          have hmq := mem_listed heq
          simp [go_sem, *] at hmq
        clear hKq Kq rq iq wq
        try w_num)
     | (refine gw_unwanted rfl rfl ?_; walk_nrm)
     | (refine gw_defer rfl rfl (by k_ne) rfl ?_; walk_nrm))
   rw [show IntKind.i64.wrap ((c : Int) + 1) = ((c + 1 : Nat) : Int) by rw [IntKind.wrap_i64]; omega]
   subst hlq hrc
   refine starts_go.mp (ih (c + 1) _ _ _ _ (by omega) rfl ⟨⟨rfl, rfl, rfl, rfl, rfl, rfl, rfl⟩, rfl, rfl⟩ ?_)
   refine ((hC.rely L r').more (M' := fun b => (M b ∨ b = bx) ∨ b = by_) (fun b q => .inl (.inl q)) ⟨fun q => ?_, fun q => ?_⟩).open
   · have := hC.nW
     rcases q with (q | q) | q
     · exact this.2.1 q
     · omega
     · omega
   · have := hC.nT
     rcases q with (q | q) | q
     · exact this.2.1 q
     · omega
     · omega
end
end Go.Proofs.YtajnfkmkombajabDoor
namespace Go.Proofs.YtajnfkmkombajabDoor
open Go Go.Conc Go.ConcN Go.RowKit Go.Conc.Lib Go.ConcR.Gen Go.ConcN.Gen
open Go.ConcR (KK wgBlock WgAt stA smA)
def Fresh (W W' : World) (M' : Nat → Prop) (B n : Nat) (e : TypeId) : Prop := W.heap.size ≤ B ∧ B < W'.heap.size ∧ M' B ∧ ∃ ro : Array Value, ro.size = n ∧ W'.heap[B]? = some (.cells ro e (0, 0))
theorem Fresh.on {W W' W'' : World} {S M' M'' : Nat → Prop} {B n : Nat} {e : TypeId} (h : Fresh W W' M' B n e) (r : RelyS S M' W' W'') (hm : ∀ b, M' b → M'' b) : Fresh W W'' M'' B n e := by
 obtain ⟨h1, h2, h3, ro, h4, h5⟩ := h
 exact ⟨h1, Nat.lt_of_lt_of_le h2 r.size, hm _ h3, ro, h4, by rw [r.keep B h2 (.inr h3)]; exact h5⟩
def J7 (S M : Nat → Prop) (W : World) (n : Nat) (v1 v2 v3 v4 v5 v8 v9 v10 v11 v12 v13 v14 v15 v16 v17 v18 v19 v20 v21 v22 v27 v28 v29 v30 v31 v32 v33 v34 v35 v36 v37 v38 v39 v40 v41 v42 v43 v44 v45 v46 v47 v48 v49 v50 v51 v52 v53 v54 v55 v56 v57 v58 v59 v60 v61 : Value) (l : Array Bool) (a : Act) (W' : World) (M' : Nat → Prop) : Prop :=
 ∃ x23 x24 x25 x26 x6 x7, ∃ Bo Be : Nat, a = ⟨(List.toArray (.int .i64 n :: v1 :: v2 :: v3 :: v4 :: v5 :: x6 :: x7 :: v8 :: v9 :: v10 :: v11 :: v12 :: v13 :: v14 :: v15 :: v16 :: v17 :: v18 :: v19 :: v20 :: v21 :: v22 :: x23 :: x24 :: x25 :: x26 :: v27 :: v28 :: v29 :: v30 :: v31 :: v32 :: v33 :: v34 :: v35 :: v36 :: v37 :: v38 :: v39 :: v40 :: v41 :: v42 :: v43 :: v44 :: v45 :: v46 :: v47 :: v48 :: v49 :: v50 :: v51 :: v52 :: v53 :: v54 :: v55 :: v56 :: v57 :: v58 :: v59 :: v60 :: v61 :: [])), []⟩ ∧ RelyS S M W W' ∧ (∀ b, M b → M' b) ∧ (∀ b, M' b → M b ∨ W.heap.size ≤ b) ∧
   (l.getD 0 false = true → x23 = .int .i64 n) ∧ (l.getD 1 false = true → x24 = .slice (some ⟨Bo, 0, none⟩) n n ∧ Fresh W W' M' Bo n 51) ∧ (l.getD 2 false = true → x25 = .int .i64 n) ∧ (l.getD 3 false = true → x26 = .slice (some ⟨Be, 0, none⟩) n n ∧ Fresh W W' M' Be n 33) ∧
   (l.getD 1 false = true → l.getD 3 false = true → Bo ≠ Be) ∧ (l.getD 4 false = true → l.getD 1 false = true ∧ x6 = .slice (some ⟨Bo, 0, none⟩) n n) ∧ (l.getD 5 false = true → l.getD 3 false = true ∧ l.getD 4 false = true ∧ x7 = .slice (some ⟨Be, 0, none⟩) n n)
theorem arr6b (l : Array Bool) (h : l.size = 6) : ∃ a b c d e f, l = #[a, b, c, d, e, f] := by
 obtain ⟨l⟩ := l
 match l, h with
 | [a, b, c, d, e, f], _ => exact ⟨a, b, c, d, e, f, rfl⟩
theorem U111 : Tryd.prog.underlying 111 = some (.slice 51) := by kernel_rfl
theorem U163 : Tryd.prog.underlying 163 = some (.slice 33) := by kernel_rfl
theorem i51x : (Tryd.prog.info? 51).map (fun i => (i.zero, i.size, i.bytes)) = some (some (.slice none 0 0), 1, 24) := by kernel_rfl
theorem i33x : (Tryd.prog.info? 33).map (fun i => (i.zero, i.size, i.bytes)) = some (some .nilIface, 1, 16) := by kernel_rfl
noncomputable def rg7 : Array Oper := match restC with | .seq (.region _ ops _) _ => ops | _ => #[]
set_option maxRecDepth 100000 in
set_option maxHeartbeats 4000000 in
theorem reg7 {I : World → Prop} {S M : Nat → Prop} {Stop : Goroutine → World → (Nat → Prop) → Prop} {W : World} {n : Nat} (hn : 24 * n ≤ 140737488355328) {v1 v2 v3 v4 v5 v8 v9 v10 v11 v12 v13 v14 v15 v16 v17 v18 v19 v20 v21 v22 v27 v28 v29 v30 v31 v32 v33 v34 v35 v36 v37 v38 v39 v40 v41 v42 v43 v44 v45 v46 v47 v48 v49 v50 v51 v52 v53 v54 v55 v56 v57 v58 v59 v60 v61 x23 x24 x25 x26 x6 x7 : Value} {k : List Item} {cs : List Frame} {rid : Nat}
   (h : ∀ W' M' Bo Be x23 x24 x25 x26, RelyS S M W W' → (∀ b, M b → M' b) → (∀ b, M' b → M b ∨ W.heap.size ≤ b) → Fresh W W' M' Bo n 51 → Fresh W W' M' Be n 33 → Bo ≠ Be →
     GoesW Tryd.prog true I S Stop (G ((base 138).at ⟨(List.toArray (.int .i64 n :: v1 :: v2 :: v3 :: v4 :: v5 :: .slice (some ⟨Bo, 0, none⟩) n n :: .slice (some ⟨Be, 0, none⟩) n n :: v8 :: v9 :: v10 :: v11 :: v12 :: v13 :: v14 :: v15 :: v16 :: v17 :: v18 :: v19 :: v20 :: v21 :: v22 :: x23 :: x24 :: x25 :: x26 :: v27 :: v28 :: v29 :: v30 :: v31 :: v32 :: v33 :: v34 :: v35 :: v36 :: v37 :: v38 :: v39 :: v40 :: v41 :: v42 :: v43 :: v44 :: v45 :: v46 :: v47 :: v48 :: v49 :: v50 :: v51 :: v52 :: v53 :: v54 :: v55 :: v56 :: v57 :: v58 :: v59 :: v60 :: v61 :: [])), []⟩ k) cs) W' M') :
   GoesW Tryd.prog true I S Stop (G ((base 138).at ⟨(List.toArray (.int .i64 n :: v1 :: v2 :: v3 :: v4 :: v5 :: x6 :: x7 :: v8 :: v9 :: v10 :: v11 :: v12 :: v13 :: v14 :: v15 :: v16 :: v17 :: v18 :: v19 :: v20 :: v21 :: v22 :: x23 :: x24 :: x25 :: x26 :: v27 :: v28 :: v29 :: v30 :: v31 :: v32 :: v33 :: v34 :: v35 :: v36 :: v37 :: v38 :: v39 :: v40 :: v41 :: v42 :: v43 :: v44 :: v45 :: v46 :: v47 :: v48 :: v49 :: v50 :: v51 :: v52 :: v53 :: v54 :: v55 :: v56 :: v57 :: v58 :: v59 :: v60 :: v61 :: [])), []⟩ (.code (.region rid rg7 true) :: k)) cs) W M := by
 obtain ⟨ti, i51, h51⟩ := Option.map_eq_some_iff.1 i51x
 simp only [Prod.mk.injEq] at h51
 obtain ⟨z51, s51, b51⟩ := h51
 obtain ⟨tj, i33, h33⟩ := Option.map_eq_some_iff.1 i33x
 simp only [Prod.mk.injEq] at h33
 obtain ⟨z33, s33, b33⟩ := h33
 replace b51 : ti.bytes * n ≤ 140737488355328 := by rw [b51]; omega
 replace b33 : tj.bytes * n ≤ 140737488355328 := by rw [b33]; omega
 have hn63 : n ≤ 9223372036854775807 := by omega
 refine gw_draw fun W1 r1 t => ?_
 refine drawn_all (X := Unit) rfl (fun l _ a W' M' => J7 S M W n v1 v2 v3 v4 v5 v8 v9 v10 v11 v12 v13 v14 v15 v16 v17 v18 v19 v20 v21 v22 v27 v28 v29 v30 v31 v32 v33 v34 v35 v36 v37 v38 v39 v40 v41 v42 v43 v44 v45 v46 v47 v48 v49 v50 v51 v52 v53 v54 v55 v56 v57 v58 v59 v60 v61 l a W' M') (fun _ g W M => GoesW Tryd.prog true I S Stop g W M) ?_ ?_ (x := ()) t ⟨x23, x24, x25, x26, x6, x7, 0, 0, rfl, r1, fun b q => q, fun b q => .inl q, ?_⟩
 · intro l _ a W' M' i rest hs hJ hi hK
   replace hK := hK ()
   obtain ⟨l0, l1, l2, l3, l4, l5, rfl⟩ := arr6b l hs
   obtain ⟨x23, x24, x25, x26, x6, x7, Bo, Be, rfl, r, m1, m2, j0, j1, j2, j3, j13, j4, j5⟩ := hJ
   have hlt := ready_lt hi
   rcases (show i = 0 ∨ i = 1 ∨ i = 2 ∨ i = 3 ∨ i = 4 ∨ i = 5 by change i < 6 at hlt; omega) with rfl | rfl | rfl | rfl | rfl | rfl
   · refine gw_val (v := .int .i64 n) rfl rfl (by k_ne) (fun w => by kernel_rfl) (fun w => by kernel_rfl) ?_
     exact hK _ _ _ ⟨_, _, _, _, _, _, Bo, Be, rfl, r, m1, m2, fun _ => rfl, j1, j2, j3, j13, j4, j5⟩
   · obtain rfl := j0 (ready_after hi rfl 0 rfl rfl)
     refine gw_push (v := fun B => .slice (some ⟨B, 0, none⟩) n n) (ob := .cells (madeCells (Value.slice none 0 0).cells n) 51) rfl rfl (by k_ne) (fun w _ _ => (run_make_op rfl rfl rfl U111 i51 z51 s51 b51 hn63 w).1) (fun w _ _ e he => by
       have hm := mem_listed he
       rw [(run_make_op (P := Tryd.prog) rfl rfl rfl U111 i51 z51 s51 b51 hn63 w).2] at hm
       simp at hm) (fun W2 B r2 g1 g2 g3 => ?_)
     have s1 := r.size
     have s2 := r2.size
     have hf : Fresh W W2 (fun x => M' x ∨ x = B) B n 51 := ⟨by omega, g2, .inr rfl, _, size_madeCells _ _, g3⟩
     have hnew : l1 = false := ready_new hi
     subst hnew
     exact hK _ _ _ ⟨_, _, _, _, _, _, B, Be, rfl, r.trans (r2.mono fun b q => q.imp (fun q => q) (m1 b)), fun b q => .inl (m1 b q), fun b q => q.elim (m2 b) fun q => .inr (by omega), fun _ => rfl, fun _ => ⟨rfl, hf⟩, j2, fun q => ⟨(j3 q).1, (j3 q).2.on r2 fun b q => .inl q⟩, fun _ q e => by have := (j3 q).2.2.1; omega, fun q => absurd (j4 q).1 Bool.false_ne_true, fun q => absurd (j4 (j5 q).2.1).1 Bool.false_ne_true⟩
   · refine gw_val (v := .int .i64 n) rfl rfl (by k_ne) (fun w => by kernel_rfl) (fun w => by kernel_rfl) ?_
     exact hK _ _ _ ⟨_, _, _, _, _, _, Bo, Be, rfl, r, m1, m2, j0, j1, fun _ => rfl, j3, j13, j4, j5⟩
   · obtain rfl := j2 (ready_after hi rfl 0 rfl rfl)
     refine gw_push (v := fun B => .slice (some ⟨B, 0, none⟩) n n) (ob := .cells (madeCells Value.nilIface.cells n) 33) rfl rfl (by k_ne) (fun w _ _ => (run_make_op rfl rfl rfl U163 i33 z33 s33 b33 hn63 w).1) (fun w _ _ e he => by
       have hm := mem_listed he
       rw [(run_make_op (P := Tryd.prog) rfl rfl rfl U163 i33 z33 s33 b33 hn63 w).2] at hm
       simp at hm) (fun W2 B r2 g1 g2 g3 => ?_)
     have s1 := r.size
     have s2 := r2.size
     have hf : Fresh W W2 (fun x => M' x ∨ x = B) B n 33 := ⟨by omega, g2, .inr rfl, _, size_madeCells _ _, g3⟩
     have hnew : l3 = false := ready_new hi
     subst hnew
     exact hK _ _ _ ⟨_, _, _, _, _, _, Bo, B, rfl, r.trans (r2.mono fun b q => q.imp (fun q => q) (m1 b)), fun b q => .inl (m1 b q), fun b q => q.elim (m2 b) fun q => .inr (by omega), j0, fun q => ⟨(j1 q).1, (j1 q).2.on r2 fun b q => .inl q⟩, fun _ => rfl, fun _ => ⟨rfl, hf⟩, fun q _ e => by have := (j1 q).2.2.1; omega, j4, fun q => absurd (j5 q).1 Bool.false_ne_true⟩
   · obtain ⟨rfl, hf⟩ := j1 (ready_after hi rfl 0 rfl rfl)
     refine gw_val (v := .slice (some ⟨Bo, 0, none⟩) n n) rfl rfl (by k_ne) (fun w => by kernel_rfl) (fun w => by kernel_rfl) ?_
     refine hK _ _ _ ⟨_, _, _, _, _, _, Bo, Be, rfl, r, m1, m2, j0, fun _ => ⟨rfl, hf⟩, j2, j3, j13, fun _ => ⟨ready_after hi rfl 0 rfl rfl, rfl⟩, fun q => ⟨(j5 q).1, rfl, (j5 q).2.2⟩⟩
   · obtain ⟨rfl, hf⟩ := j3 (ready_after hi rfl 0 rfl rfl)
     refine gw_val (v := .slice (some ⟨Be, 0, none⟩) n n) rfl rfl (by k_ne) (fun w => by kernel_rfl) (fun w => by kernel_rfl) ?_
     refine hK _ _ _ ⟨_, _, _, _, _, _, Bo, Be, rfl, r, m1, m2, j0, j1, j2, fun _ => ⟨rfl, hf⟩, j13, j4, fun _ => ⟨ready_after hi rfl 0 rfl rfl, ready_after hi rfl 1 rfl rfl, rfl⟩⟩
 · intro l _ a W' M' hs hJ hr
   obtain ⟨l0, l1, l2, l3, l4, l5, rfl⟩ := arr6b l hs
   obtain ⟨x23, x24, x25, x26, x6, x7, Bo, Be, rfl, r, m1, m2, j0, j1, j2, j3, j13, j4, j5⟩ := hJ
   obtain rfl : l0 = true := ready_nil hr (i := 0) rfl (by simp) rfl
   obtain rfl : l1 = true := ready_nil hr (i := 1) rfl (by simp) rfl
   obtain rfl : l2 = true := ready_nil hr (i := 2) rfl (by simp) rfl
   obtain rfl : l3 = true := ready_nil hr (i := 3) rfl (by simp) rfl
   obtain rfl : l4 = true := ready_nil hr (i := 4) rfl (by simp) rfl
   obtain rfl : l5 = true := ready_nil hr (i := 5) rfl (by simp) rfl
   obtain ⟨-, rfl⟩ := j4 rfl
   obtain ⟨-, -, rfl⟩ := j5 rfl
   refine gw_region_end ?_
   exact h W' M' Bo Be _ _ _ _ r m1 m2 (j1 rfl).2 (j3 rfl).2 (j13 rfl rfl)
 · exact ⟨fun q => absurd q Bool.false_ne_true, fun q => absurd q Bool.false_ne_true, fun q => absurd q Bool.false_ne_true, fun q => absurd q Bool.false_ne_true, fun q => absurd q Bool.false_ne_true, fun q => absurd q Bool.false_ne_true, fun q => absurd q Bool.false_ne_true⟩
end Go.Proofs.YtajnfkmkombajabDoor
namespace Go.Proofs.YtajnfkmkombajabDoor
open Go Go.Conc Go.ConcN Go.RowKit Go.Conc.Lib Go.ConcR.Gen Go.ConcN.Gen
open Go.ConcR (KK wgBlock WgAt stA smA)
def Home (Res : Nat → Value → Value → World → (Nat → Prop) → Prop) (Bo Be : Nat) (ro re : Array Value) (W : World) (M : Nat → Prop) (i : Nat) : Prop :=
 ∃ (Mi : Nat → Prop) (ao : Option Addr) (k m : Nat) (err : Value), (∀ b, Mi b → M b ∧ b ≠ Bo ∧ b ≠ Be ∧ b < W.heap.size) ∧ ro[i]? = some (.slice ao k m) ∧ re[i]? = some err ∧ (err = .nilIface ∨ ∃ t v, err = .iface t v) ∧ Res i (.slice ao k m) err W Mi
structure Lf (F : Farm Tryd.prog) (b8 b9 Bh : Nat) (fh : FuncId) (hc : Array Value) (Res : Nat → Value → Value → World → (Nat → Prop) → Prop) (S0 : Nat → Prop) (K J : World → Prop) (Bo Be n : Nat) (got : Nat → Prop) (S M : Nat → Prop) (W : World) : Prop where
 cf : Cf F b8 b9 Bh fh hc S0 K J S M W
 mo : M Bo
 me : M Be
 ne : Bo ≠ Be
 lo : Bo < W.heap.size
 le : Be < W.heap.size
 po : ¬ F.priv Bo ∧ ¬ F.priv Be
 so : ∀ b, S0 b ∨ b = b8 ∨ b = b9 ∨ b = Bh → b ≠ Bo ∧ b ≠ Be
 rows : ∃ ro re : Array Value, ro.size = n ∧ re.size = n ∧ W.heap[Bo]? = some (.cells ro 51 (0, 0)) ∧ W.heap[Be]? = some (.cells re 33 (0, 0)) ∧ ∀ i, got i → Home Res Bo Be ro re W M i
section
variable {F : Farm Tryd.prog} {b8 b9 Bh : Nat} {fh : FuncId} {hc : Array Value} {Res : Nat → Value → Value → World → (Nat → Prop) → Prop} {S0 : Nat → Prop} {K J : World → Prop} {Bo Be n : Nat} {got : Nat → Prop} {S M : Nat → Prop} {W W1 : World}
theorem Lf.rely (L : CfLaw F fh hc Res S0 K J) (h : Lf F b8 b9 Bh fh hc Res S0 K J Bo Be n got S M W) (r : RelyS S M W W1) : Lf F b8 b9 Bh fh hc Res S0 K J Bo Be n got S M W1 := by
 obtain ⟨ro, re, h1, h2, h3, h4, h5⟩ := h.rows
 refine ⟨h.cf.rely L r, h.mo, h.me, h.ne, Nat.lt_of_lt_of_le h.lo r.size, Nat.lt_of_lt_of_le h.le r.size, h.po, h.so, ro, re, h1, h2, by rw [r.keep _ h.lo (.inr h.mo)]; exact h3, by rw [r.keep _ h.le (.inr h.me)]; exact h4, fun i hi => ?_⟩
 obtain ⟨Mi, ao, k, m, err, q1, q2, q3, q4, q5⟩ := h5 i hi
 exact ⟨Mi, ao, k, m, err, fun b q => ⟨(q1 b q).1, (q1 b q).2.1, (q1 b q).2.2.1, Nat.lt_of_lt_of_le (q1 b q).2.2.2 r.size⟩, q2, q3, q4, L.stays _ _ _ _ _ _ q5 (r.mono fun b q => q.elim (fun q => pub_or (h.cf.s0 b q)) fun q => .inr (q1 b q).1)⟩
theorem Lf.more {M' : Nat → Prop} (h : Lf F b8 b9 Bh fh hc Res S0 K J Bo Be n got S M W) (hm : ∀ b, M b → M' b) (hn : ¬ M' F.Wg ∧ ¬ M' F.Td) : Lf F b8 b9 Bh fh hc Res S0 K J Bo Be n got S M' W := by
 obtain ⟨ro, re, h1, h2, h3, h4, h5⟩ := h.rows
 refine ⟨h.cf.more hm hn, hm _ h.mo, hm _ h.me, h.ne, h.lo, h.le, h.po, h.so, ro, re, h1, h2, h3, h4, fun i hi => ?_⟩
 obtain ⟨Mi, ao, k, m, err, q1, q2⟩ := h5 i hi
 exact ⟨Mi, ao, k, m, err, fun b q => ⟨hm _ (q1 b q).1, (q1 b q).2⟩, q2⟩
theorem Lf.all (h : Lf F b8 b9 Bh fh hc Res S0 K J Bo Be n got S M W) {got' : Nat → Prop} (ha : ∀ k, got' k → got k) : Lf F b8 b9 Bh fh hc Res S0 K J Bo Be n got' S M W := by
 obtain ⟨ro, re, h1, h2, h3, h4, h5⟩ := h.rows
 exact ⟨h.cf, h.mo, h.me, h.ne, h.lo, h.le, h.po, h.so, ro, re, h1, h2, h3, h4, fun i hi => h5 i (ha i hi)⟩
end
noncomputable def rg16 : Array Oper := match lp2 with | .seq _ (.block _ (.seq _ (.seq _ (.seq _ (.seq (.region _ ops _) _))))) => ops | _ => #[]
noncomputable def rs16 : Code := match lp2 with | .seq _ (.block _ (.seq _ (.seq _ (.seq _ (.seq _ c))))) => c | _ => .skip
def chN (Td n nx : Nat) : Value := if nx = n then .chan none else .chan (some Td)
def SelA (F : Farm Tryd.prog) (b8 b9 Bh : Nat) (fh : FuncId) (hc : Array Value) (Res : Nat → Value → Value → World → (Nat → Prop) → Prop) (S0 : Nat → Prop) (K J : World → Prop) (Bo Be n : Nat) (cs : List Frame) (S : Nat → Prop) (nx rd : Nat) (got : Nat → Prop) (g : Goroutine) (W : World) (M : Nat → Prop) : Prop :=
 Lf F b8 b9 Bh fh hc Res S0 K J Bo Be n got S M W ∧ nx ≤ n ∧ rd < n ∧ ∃ T : Array Value, T.size = 62 ∧ (T[0]? = some (.int .i64 n) ∧ T[6]? = some (.slice (some ⟨Bo, 0, none⟩) n n) ∧ T[7]? = some (.slice (some ⟨Be, 0, none⟩) n n) ∧ T[8]? = some (.pointer (some ⟨b8, 0, none⟩)) ∧ T[9]? = some (.pointer (some ⟨b9, 0, none⟩)) ∧ T[10]? = some (.pointer (some ⟨F.Wg, 0, none⟩)) ∧ T[11]? = some (.int .i64 nx) ∧ T[12]? = some (.int .i64 rd) ∧ T[34]? = some (chN F.Td n nx) ∧ T[35]? = some (.int .i64 nx) ∧ T[36]? = some (.chan (some F.Bk))) ∧ g = G ((base 138).at ⟨T, []⟩ [.inRegion rg16 [0, 1, 2, 3], .code rs16, .inBlock 3, .inLoop lp2, .inBlock 2, .code endC]) cs
section
variable {F : Farm Tryd.prog} {b8 b9 Bh : Nat} {fh : FuncId} {hc : Array Value} {Res : Nat → Value → Value → World → (Nat → Prop) → Prop} {S0 : Nat → Prop} {K J : World → Prop} {Bo Be n : Nat} {got : Nat → Prop} {S M : Nat → Prop} {W W1 : World}
set_option maxRecDepth 100000 in
set_option maxHeartbeats 4000000 in
theorem turnA (L : CfLaw F fh hc Res S0 K J) (hn : n < 9223372036854775807) {cs : List Frame} (hS : ∀ S nx rd got g W M, SelA F b8 b9 Bh fh hc Res S0 K J Bo Be n cs S nx rd got g W M → F.Sel S nx rd got g W M) (hmany : F.many = n)
   (nx rd : Nat) (hx : nx ≤ n) (hr : rd ≤ n) (hall : rd = n → ∀ k, k < n → got k) (T : Array Value) (hT : T.size = 62) (hs : T[0]? = some (.int .i64 n) ∧ T[6]? = some (.slice (some ⟨Bo, 0, none⟩) n n) ∧ T[7]? = some (.slice (some ⟨Be, 0, none⟩) n n) ∧ T[8]? = some (.pointer (some ⟨b8, 0, none⟩)) ∧ T[9]? = some (.pointer (some ⟨b9, 0, none⟩)) ∧ T[10]? = some (.pointer (some ⟨F.Wg, 0, none⟩)) ∧ T[11]? = some (.int .i64 nx) ∧ T[12]? = some (.int .i64 rd)) (h : Lf F b8 b9 Bh fh hc Res S0 K J Bo Be n got S M W)
   (hZ : ∀ T W1, T.size = 62 → T[0]? = some (.int .i64 n) ∧ T[6]? = some (.slice (some ⟨Bo, 0, none⟩) n n) ∧ T[7]? = some (.slice (some ⟨Be, 0, none⟩) n n) ∧ T[8]? = some (.pointer (some ⟨b8, 0, none⟩)) ∧ T[9]? = some (.pointer (some ⟨b9, 0, none⟩)) ∧ T[10]? = some (.pointer (some ⟨F.Wg, 0, none⟩)) → Lf F b8 b9 Bh fh hc Res S0 K J Bo Be n (fun k => k < n) S M W1 → F.Go true S (F.Cl S) (G ((base 138).at ⟨T, []⟩ [.code endC]) cs) W1 M) :
   F.Go true S (F.Turn S nx rd got) (G ((base 138).at ⟨T, []⟩ [.code lp2, .inLoop lp2, .inBlock 2, .code endC]) cs) W M := by
 obtain ⟨v0, v1, v2, v3, v4, v5, v6, v7, v8, v9, v10, v11, v12, v13, v14, v15, v16, v17, v18, v19, v20, v21, v22, v23, v24, v25, v26, v27, v28, v29, v30, v31, v32, v33, v34, v35, v36, v37, v38, v39, v40, v41, v42, v43, v44, v45, v46, v47, v48, v49, v50, v51, v52, v53, v54, v55, v56, v57, v58, v59, v60, v61, rfl⟩ := arr62 T hT
 simp only [List.getElem?_toArray, List.getElem?_cons_zero, List.getElem?_cons_succ, Option.some.injEq] at hs
 obtain ⟨rfl, rfl, rfl, rfl, rfl, rfl, rfl, rfl⟩ := hs
 have hcl := fun T hT hs (e : rd = n) => hZ T W hT hs (h.all (hall e))
 clear hZ
 revert hcl
 generalize hec : endC = ec
 intro hcl
 generalize hlq : lp2 = lq
 rw [show Item.code lq = Item.code lp2 by rw [hlq]]
 simp only [lp2, restC, bodyC, Tryd.f138, Option.getD_some]
 repeat (first
   | refine gw_seq ?_
   | refine gw_skip ?_
   | refine gw_block ?_
   | refine gw_loop ?_
   | refine gw_inLoop ?_
   | refine gw_inBlock ?_
   | refine gw_region_end ?_
   | refine gw_label ?_
   | refine gw_ret ?_
   | (refine gw_region ?_; simp only [List.size_toArray, List.length_cons, List.length_nil, Nat.reduceAdd, Nat.zero_add, List.range, List.range.loop])
   | refine gw_exit rfl ?_
   | refine gw_yes rfl ?_
   | refine gw_no rfl ?_
   | (refine gw_op rfl rfl (by k_ne) (fun wq rq iq Kq hKq => ?_)
      go_simp
      refine hKq _ ?_ ?_
      · intro eq heq
        have hmq := mem_listed heq
        simp [go_sem, *] at hmq
      clear hKq Kq rq iq wq
      try w_num)
   | (refine gw_unwanted rfl rfl ?_; walk_nrm)
   | (refine gw_defer rfl rfl (by k_ne) rfl ?_; walk_nrm))
 rcases Nat.lt_or_ge rd n with hlt | hge
 · rw [show decide (rd < n) = true by simpa using hlt]
   repeat (first
     | refine gw_seq ?_
     | refine gw_skip ?_
     | refine gw_block ?_
     | refine gw_loop ?_
     | refine gw_inLoop ?_
     | refine gw_inBlock ?_
     | refine gw_region_end ?_
     | refine gw_label ?_
     | refine gw_ret ?_
     | (refine gw_region ?_; simp only [List.size_toArray, List.length_cons, List.length_nil, Nat.reduceAdd, Nat.zero_add, List.range, List.range.loop])
     | refine gw_exit rfl ?_
     | refine gw_yes rfl ?_
     | refine gw_no rfl ?_
     | (refine gw_op rfl rfl (by k_ne) (fun wq rq iq Kq hKq => ?_)
        go_simp
        refine hKq _ ?_ ?_
        · intro eq heq
          have hmq := mem_listed heq
          simp [go_sem, *] at hmq
        clear hKq Kq rq iq wq
        try w_num)
     | (refine gw_unwanted rfl rfl ?_; walk_nrm)
     | (refine gw_defer rfl rfl (by k_ne) rfl ?_; walk_nrm))
   refine gw_op rfl rfl (by k_ne) (fun wq rq iq Kq hKq => ?_)
   have hl := cell_rely rq (pub_or h.cf.m8) h.cf.c8
   go_simp
   refine hKq _ ?_ ?_
   · intro eq heq
     have hmq := mem_listed heq
     simp [go_sem, *] at hmq
     subst hmq
     exact evOk_rd (pub_or h.cf.m8)
   clear hKq Kq hl rq iq wq
   repeat (first
     | refine gw_seq ?_
     | refine gw_skip ?_
     | refine gw_block ?_
     | refine gw_loop ?_
     | refine gw_inLoop ?_
     | refine gw_inBlock ?_
     | refine gw_region_end ?_
     | refine gw_label ?_
     | refine gw_ret ?_
     | (refine gw_region ?_; simp only [List.size_toArray, List.length_cons, List.length_nil, Nat.reduceAdd, Nat.zero_add, List.range, List.range.loop])
     | refine gw_exit rfl ?_
     | refine gw_yes rfl ?_
     | refine gw_no rfl ?_
     | (refine gw_op rfl rfl (by k_ne) (fun wq rq iq Kq hKq => ?_)
        go_simp
        refine hKq _ ?_ ?_
        · intro eq heq
          have hmq := mem_listed heq
          simp [go_sem, *] at hmq
        clear hKq Kq rq iq wq
        try w_num)
     | (refine gw_unwanted rfl rfl ?_; walk_nrm)
     | (refine gw_defer rfl rfl (by k_ne) rfl ?_; walk_nrm))
   rcases Nat.lt_or_ge nx n with hl2 | hg2
   · rw [show ((nx : Int) == (n : Int)) = false by simp; omega]
     repeat (first
       | refine gw_seq ?_
       | refine gw_skip ?_
       | refine gw_block ?_
       | refine gw_loop ?_
       | refine gw_inLoop ?_
       | refine gw_inBlock ?_
       | refine gw_region_end ?_
       | refine gw_label ?_
       | refine gw_ret ?_
       | (refine gw_region ?_; simp only [List.size_toArray, List.length_cons, List.length_nil, Nat.reduceAdd, Nat.zero_add, List.range, List.range.loop])
       | refine gw_exit rfl ?_
       | refine gw_yes rfl ?_
       | refine gw_no rfl ?_
       | (refine gw_op rfl rfl (by k_ne) (fun wq rq iq Kq hKq => ?_)
          go_simp
          refine hKq _ ?_ ?_
          · intro eq heq
            have hmq := mem_listed heq
            simp [go_sem, *] at hmq
          clear hKq Kq rq iq wq
          try w_num)
       | (refine gw_unwanted rfl rfl ?_; walk_nrm)
       | (refine gw_defer rfl rfl (by k_ne) rfl ?_; walk_nrm))
     refine gw_op rfl rfl (by k_ne) (fun wq rq iq Kq hKq => ?_)
     have hl := cell_rely rq (pub_or h.cf.m9) h.cf.c9
     go_simp
     refine hKq _ ?_ ?_
     · intro eq heq
       have hmq := mem_listed heq
       simp [go_sem, *] at hmq
       subst hmq
       exact evOk_rd (pub_or h.cf.m9)
     clear hKq Kq hl rq iq wq
     repeat (first
       | refine gw_seq ?_
       | refine gw_skip ?_
       | refine gw_block ?_
       | refine gw_loop ?_
       | refine gw_inLoop ?_
       | refine gw_inBlock ?_
       | refine gw_region_end ?_
       | refine gw_label ?_
       | refine gw_ret ?_
       | (refine gw_region ?_; simp only [List.size_toArray, List.length_cons, List.length_nil, Nat.reduceAdd, Nat.zero_add, List.range, List.range.loop])
       | refine gw_exit rfl ?_
       | refine gw_yes rfl ?_
       | refine gw_no rfl ?_)
     subst hlq hec
     exact GoesW.stop fun W1 r _ => .inl ⟨by rw [hmany]; exact hlt, hS _ _ _ _ _ _ _ ⟨h.rely L r, hx, hlt, _, rfl, ⟨rfl, rfl, rfl, rfl, rfl, rfl, rfl, rfl, (by rw [chN, if_neg (by omega)]; rfl), rfl, rfl⟩, rfl⟩⟩
   · obtain rfl : nx = n := by omega
     rw [show ((nx : Int) == (nx : Int)) = true by simp]
     repeat (first
       | refine gw_seq ?_
       | refine gw_skip ?_
       | refine gw_block ?_
       | refine gw_loop ?_
       | refine gw_inLoop ?_
       | refine gw_inBlock ?_
       | refine gw_region_end ?_
       | refine gw_label ?_
       | refine gw_ret ?_
       | (refine gw_region ?_; simp only [List.size_toArray, List.length_cons, List.length_nil, Nat.reduceAdd, Nat.zero_add, List.range, List.range.loop])
       | refine gw_exit rfl ?_
       | refine gw_yes rfl ?_
       | refine gw_no rfl ?_
       | (refine gw_op rfl rfl (by k_ne) (fun wq rq iq Kq hKq => ?_)
          go_simp
          refine hKq _ ?_ ?_
          · intro eq heq
            have hmq := mem_listed heq
            simp [go_sem, *] at hmq
          clear hKq Kq rq iq wq
          try w_num)
       | (refine gw_unwanted rfl rfl ?_; walk_nrm)
       | (refine gw_defer rfl rfl (by k_ne) rfl ?_; walk_nrm))
     refine gw_op rfl rfl (by k_ne) (fun wq rq iq Kq hKq => ?_)
     have hl := cell_rely rq (pub_or h.cf.m9) h.cf.c9
     go_simp
     refine hKq _ ?_ ?_
     · intro eq heq
       have hmq := mem_listed heq
       simp [go_sem, *] at hmq
       subst hmq
       exact evOk_rd (pub_or h.cf.m9)
     clear hKq Kq hl rq iq wq
     repeat (first
       | refine gw_seq ?_
       | refine gw_skip ?_
       | refine gw_block ?_
       | refine gw_loop ?_
       | refine gw_inLoop ?_
       | refine gw_inBlock ?_
       | refine gw_region_end ?_
       | refine gw_label ?_
       | refine gw_ret ?_
       | (refine gw_region ?_; simp only [List.size_toArray, List.length_cons, List.length_nil, Nat.reduceAdd, Nat.zero_add, List.range, List.range.loop])
       | refine gw_exit rfl ?_
       | refine gw_yes rfl ?_
       | refine gw_no rfl ?_)
     subst hlq hec
     exact GoesW.stop fun W1 r _ => .inl ⟨by rw [hmany]; exact hlt, hS _ _ _ _ _ _ _ ⟨h.rely L r, hx, hlt, _, rfl, ⟨rfl, rfl, rfl, rfl, rfl, rfl, rfl, rfl, (by rw [chN, if_pos rfl]; rfl), rfl, rfl⟩, rfl⟩⟩
 · obtain rfl : rd = n := by omega
   rw [show decide (rd < rd) = false by simp]
   repeat (first
     | refine gw_seq ?_
     | refine gw_skip ?_
     | refine gw_block ?_
     | refine gw_loop ?_
     | refine gw_inLoop ?_
     | refine gw_inBlock ?_
     | refine gw_region_end ?_
     | refine gw_label ?_
     | refine gw_ret ?_
     | (refine gw_region ?_; simp only [List.size_toArray, List.length_cons, List.length_nil, Nat.reduceAdd, Nat.zero_add, List.range, List.range.loop])
     | refine gw_exit rfl ?_
     | refine gw_yes rfl ?_
     | refine gw_no rfl ?_
     | (refine gw_op rfl rfl (by k_ne) (fun wq rq iq Kq hKq => ?_)
        go_simp
        refine hKq _ ?_ ?_
        · intro eq heq
          have hmq := mem_listed heq
          simp [go_sem, *] at hmq
        clear hKq Kq rq iq wq
        try w_num)
     | (refine gw_unwanted rfl rfl ?_; walk_nrm)
     | (refine gw_defer rfl rfl (by k_ne) rfl ?_; walk_nrm))
   exact (hcl _ rfl ⟨rfl, rfl, rfl, rfl, rfl, rfl⟩ rfl).mono fun g W M q _ => .inr ⟨hmany.symm, q⟩
end
end Go.Proofs.YtajnfkmkombajabDoor
