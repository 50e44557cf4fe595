/-
  side.all: the select; a task is given.
  side.all: what came back is put into its row, in whatever order.
  side.all: a task comes back.
-/
import Derived.Test.YtajnfkmkombajabDoorQSD18
set_option linter.unusedVariables false
set_option linter.unusedSimpArgs false
namespace Go.Proofs.YtajnfkmkombajabDoor
open Go Go.Conc Go.ConcN Go.RowKit Go.Conc.Lib Go.ConcR.Gen Go.ConcN.Gen
open Go.ConcR (KK wgBlock WgAt stA smA)
structure SelLaw (F : Farm Tryd.prog) : Prop where
 zs : F.zs = .int .i64 0
 zb : F.zb = .agg #[.int .i64 0, .slice none 0 0, .nilIface]
 cases : ∀ nx, F.selC nx = if nx < F.many then #[scase F.Td (.int .i64 nx) F.zs, rcase F.Bk F.zb] else #[{ chan := .chan none, send := some (.int .i64 nx), zero := F.zs }, rcase F.Bk F.zb]
theorem i3x : (Tryd.prog.info? 3).map (·.zero) = some (some (.int .i64 0)) := by kernel_rfl
theorem i201x : (Tryd.prog.info? 201).map (·.zero) = some (some (.agg #[.int .i64 0, .slice none 0 0, .nilIface])) := by kernel_rfl
section
variable {F : Farm Tryd.prog} {b8 b9 Bh : Nat} {fh : FuncId} {hc : Array Value} {Res : Nat → Value → Value → World → (Nat → Prop) → Prop} {S0 : Nat → Prop} {K J : World → Prop} {Bo Be n : Nat} {cs : List Frame} {got : Nat → Prop} {S M : Nat → Prop} {W W1 : World} {g : Goroutine} {nx rd : Nat}
theorem SelLaw.give (C : SelLaw F) (nx : Nat) : commResult (F.selC nx) .select 0 undef false = .tuple #[.int .i64 0, .bool false, F.zb] := by
 rw [C.cases]; split <;> simp [commResult, scase, rcase, goInt]
theorem SelLaw.get (C : SelLaw F) (nx : Nat) (v : Value) : commResult (F.selC nx) .select 1 v true = .tuple #[.int .i64 1, .bool true, v] := by
 rw [C.cases]; split <;> simp [commResult, scase, rcase, goInt]
theorem selA_run (h : SelA F b8 b9 Bh fh hc Res S0 K J Bo Be n cs S nx rd got g W M) : g.status = .running := by
 obtain ⟨-, -, -, T, -, -, rfl⟩ := h
 rfl
theorem selA_rely (L : CfLaw F fh hc Res S0 K J) (h : SelA F b8 b9 Bh fh hc Res S0 K J Bo Be n cs S nx rd got g W M) (r : RelyS S M W W1) : SelA F b8 b9 Bh fh hc Res S0 K J Bo Be n cs S nx rd got g W1 M := by
 obtain ⟨h1, h2⟩ := h
 exact ⟨h1.rely L r, h2⟩
theorem selA_comm (C : SelLaw F) (hmany : F.many = n) (h : SelA F b8 b9 Bh fh hc Res S0 K J Bo Be n cs S nx rd got g W M) : stepG Tryd.prog true g W = .comm g (F.selC nx) true .select W #[] := by
 obtain ⟨-, hx, -, T, hT, ⟨s0, s6, s7, s8, s9, s10, s11, s12, s34, s35, s36⟩, rfl⟩ := h
 obtain ⟨t1, h1, z1⟩ := Option.map_eq_some_iff.1 i3x
 obtain ⟨t2, h2, z2⟩ := Option.map_eq_some_iff.1 i201x
 have he : F.selC nx = #[{ chan := chN F.Td n nx, send := some (.int .i64 nx), zero := .int .i64 0 }, { chan := .chan (some F.Bk), send := none, zero := .agg #[.int .i64 0, .slice none 0 0, .nilIface] }] := by
   rw [C.cases, hmany, C.zs, C.zb]
   unfold chN
   rcases Nat.lt_or_ge nx n with q | q
   · rw [if_pos q, if_neg (by omega)]; rfl
   · rw [if_neg (by omega), if_pos (by omega)]; rfl
 rw [he]
 rw [stepG_select2 (ops := rg16) rfl rfl (by k_ne) rfl h1 z1 h2 z2 W]
 simp only [Act.eval, Array.getD_eq_getD_getElem?, s34, s35, s36, Option.getD_some]
set_option maxRecDepth 100000 in
set_option maxHeartbeats 4000000 in
theorem selA_give (L : CfLaw F fh hc Res S0 K J) (C : SelLaw F) (hn : n < 9223372036854775807) (hS : ∀ S nx rd got g W M, SelA F b8 b9 Bh fh hc Res S0 K J Bo Be n cs S nx rd got g W M → F.Sel S nx rd got g W M) (hmany : F.many = n)
   (hZ : ∀ T W1 M, T.size = 62 → T[0]? = some (.int .i64 n) ∧ T[6]? = some (.slice (some ⟨Bo, 0, none⟩) n n) ∧ T[7]? = some (.slice (some ⟨Be, 0, none⟩) n n) ∧ T[8]? = some (.pointer (some ⟨b8, 0, none⟩)) ∧ T[9]? = some (.pointer (some ⟨b9, 0, none⟩)) ∧ T[10]? = some (.pointer (some ⟨F.Wg, 0, none⟩)) → Lf F b8 b9 Bh fh hc Res S0 K J Bo Be n (fun k => k < n) S M W1 → F.Go true S (F.Cl S) (G ((base 138).at ⟨T, []⟩ [.code endC]) cs) W1 M)
   (h : SelA F b8 b9 Bh fh hc Res S0 K J Bo Be n cs S nx rd got g W M) (hx : nx < F.many) :
   F.Go true S (F.Turn S (nx + 1) rd got) (g.finishComm Tryd.prog (F.selC nx) .select 0 undef false) W M := by
 obtain ⟨h, -, hr, T, hT, hs, rfl⟩ := h
 rw [hmany] at hx
 have C1 := C.give nx
 have hend := fun T hT hs => turnA L hn hS hmany (nx + 1) rd (by omega) (by omega) (fun e => by omega) T hT hs h (fun T W1 => hZ T W1 M)
 clear hZ
 obtain ⟨v0, v1, v2, v3, v4, v5, v6, v7, v8, v9, v10, v11, v12, v13, v14, v15, v16, v17, v18, v19, v20, v21, v22, v23, v24, v25, v26, v27, v28, v29, v30, v31, v32, v33, v34, v35, v36, v37, v38, v39, v40, v41, v42, v43, v44, v45, v46, v47, v48, v49, v50, v51, v52, v53, v54, v55, v56, v57, v58, v59, v60, v61, rfl⟩ := arr62 T hT
 simp only [List.getElem?_toArray, List.getElem?_cons_zero, List.getElem?_cons_succ, Option.some.injEq] at hs
 obtain ⟨rfl, rfl, rfl, rfl, rfl, rfl, rfl, rfl, rfl, rfl, rfl⟩ := hs
 rw [show ∀ (g : Goroutine) (cs : Array CommCase) (k : Int) (v : Value) (ok : Bool), g.finishComm Tryd.prog cs .select k v ok = Go.Conc.served g (commResult cs .select k v ok) from fun _ _ _ _ _ => rfl, C1, served_at]
 generalize F.zb = zb at *
 revert hend
 generalize lp2 = lq
 generalize hec : endC = ec
 intro hend
 simp only [rg16, rs16, lp2, restC, bodyC, Tryd.f138, Option.getD_some]
 walk_nrm
 repeat (first
   | refine gw_seq ?_
   | refine gw_skip ?_
   | refine gw_block ?_
   | refine gw_loop ?_
   | refine gw_inLoop ?_
   | refine gw_inBlock ?_
   | refine gw_region_end ?_
   | refine gw_label ?_
   | refine gw_ret ?_
   | (refine gw_region ?_; simp only [List.size_toArray, List.length_cons, List.length_nil, Nat.reduceAdd, Nat.zero_add, List.range, List.range.loop])
   | refine gw_exit rfl ?_
   | refine gw_yes rfl ?_
   | refine gw_no rfl ?_
   | (refine gw_op rfl rfl (by k_ne) (fun wq rq iq Kq hKq => ?_)
      go_simp
      refine hKq _ ?_ ?_
      · intro eq heq
        have hmq := mem_listed heq
        simp [go_sem, *] at hmq
      clear hKq Kq rq iq wq
      try w_num)
   | (refine gw_unwanted rfl rfl ?_; walk_nrm)
   | (refine gw_defer rfl rfl (by k_ne) rfl ?_; walk_nrm))
 rw [show IntKind.i64.wrap ((nx : Int) + 1) = ((nx + 1 : Nat) : Int) by rw [IntKind.wrap_i64]; omega]
 exact hend _ rfl ⟨rfl, rfl, rfl, rfl, rfl, rfl, rfl, rfl⟩
end
end Go.Proofs.YtajnfkmkombajabDoor
namespace Go.Proofs.YtajnfkmkombajabDoor
open Go Go.Conc Go.ConcN Go.RowKit Go.Conc.Lib Go.ConcR.Gen Go.ConcN.Gen
open Go.ConcR (KK wgBlock WgAt stA smA)
def J19 (S M : Nat → Prop) (W : World) (Bo Be B n i : Nat) (ao : Option Addr) (kk mm : Nat) (err : Value) (ro re : Array Value) (v0 v1 v2 v3 v4 v5 v8 v9 v10 v11 v12 v13 v15 v16 v17 v18 v19 v20 v21 v22 v23 v24 v25 v26 v27 v28 v29 v30 v31 v32 v33 v34 v35 v36 v37 v38 v39 v40 v41 v42 v43 v56 v57 v58 v59 v60 v61 : Value) (l : Array Bool) (a : Act) (W' : World) (M' : Nat → Prop) : Prop :=
 ∃ x44 x45 x46 x47 x48 x49 x50 x51 x52 x53 x54 x55, a = ⟨(List.toArray (v0 :: v1 :: v2 :: v3 :: v4 :: v5 :: .slice (some ⟨Bo, 0, none⟩) n n :: .slice (some ⟨Be, 0, none⟩) n n :: v8 :: v9 :: v10 :: v11 :: v12 :: v13 :: .pointer (some ⟨B, 0, none⟩) :: v15 :: v16 :: v17 :: v18 :: v19 :: v20 :: v21 :: v22 :: v23 :: v24 :: v25 :: v26 :: v27 :: v28 :: v29 :: v30 :: v31 :: v32 :: v33 :: v34 :: v35 :: v36 :: v37 :: v38 :: v39 :: v40 :: v41 :: v42 :: v43 :: x44 :: x45 :: x46 :: x47 :: x48 :: x49 :: x50 :: x51 :: x52 :: x53 :: x54 :: x55 :: v56 :: v57 :: v58 :: v59 :: v60 :: v61 :: [])), []⟩ ∧ M' = M ∧ RelyS (fun b => S b ∧ b ≠ Bo ∧ b ≠ Be) (fun b => M b ∧ b ≠ Bo ∧ b ≠ Be) W W' ∧ W'.heap[Bo]? = some (.cells (if l.getD 11 false then (ro.toList.take i ++ [Value.slice ao kk mm] ++ ro.toList.drop (i + 1)).toArray else ro) 51 (0, 0)) ∧ W'.heap[Be]? = some (.cells (if l.getD 13 false then (re.toList.take i ++ [err] ++ re.toList.drop (i + 1)).toArray else re) 33 (0, 0)) ∧
   (l.getD 0 false = true → x44 = .slice (some ⟨Bo, 0, none⟩) n n) ∧ (l.getD 1 false = true → x45 = .pointer (some ⟨B, 0, none⟩)) ∧ (l.getD 2 false = true → x46 = .int .i64 i) ∧ (l.getD 3 false = true → x47 = .slice (some ⟨Be, 0, none⟩) n n) ∧ (l.getD 4 false = true → x48 = .pointer (some ⟨B, 0, none⟩)) ∧ (l.getD 5 false = true → x49 = .int .i64 i) ∧ (l.getD 6 false = true → x50 = .pointer (some ⟨B, 1, none⟩)) ∧ (l.getD 7 false = true → x51 = .slice ao kk mm) ∧ (l.getD 8 false = true → x52 = .pointer (some ⟨B, 2, none⟩)) ∧ (l.getD 9 false = true → x53 = err) ∧ (l.getD 10 false = true → x54 = .pointer (some ⟨Bo, i, none⟩)) ∧ (l.getD 12 false = true → x55 = .pointer (some ⟨Be, i, none⟩))
theorem arr14b (l : Array Bool) (h : l.size = 14) : ∃ a b c d e f g h i j k m n o, l = #[a, b, c, d, e, f, g, h, i, j, k, m, n, o] := by
 obtain ⟨l⟩ := l
 match l, h with
 | [a, b, c, d, e, f, g, h, i, j, k, m, n, o], _ => exact ⟨a, b, c, d, e, f, g, h, i, j, k, m, n, o, rfl⟩
noncomputable def rg19 : Array Oper := match rs16 with | .block _ (.cond _ _ (.cond _ (.seq _ (.seq (.region _ ops _) _)) _)) => ops | _ => #[]
set_option maxRecDepth 100000 in
set_option maxHeartbeats 4000000 in
theorem reg19 {I : World → Prop} {S M : Nat → Prop} {Stop : Goroutine → World → (Nat → Prop) → Prop} {W : World} {Bo Be B n i : Nat} {ao : Option Addr} {kk mm : Nat} {err : Value} {ro re : Array Value} {v0 v1 v2 v3 v4 v5 v8 v9 v10 v11 v12 v13 v15 v16 v17 v18 v19 v20 v21 v22 v23 v24 v25 v26 v27 v28 v29 v30 v31 v32 v33 v34 v35 v36 v37 v38 v39 v40 v41 v42 v43 v56 v57 v58 v59 v60 v61 x44 x45 x46 x47 x48 x49 x50 x51 x52 x53 x54 x55 : Value} {k : List Item} {cs : List Frame} {rid : Nat}
   (hin : i < n) (hn : n < 9223372036854775807) (hro : ro.size = n) (hre : re.size = n) (herr : err = .nilIface ∨ ∃ t v, err = .iface t v) (mB : M B) (mo : M Bo) (me : M Be) (ne : Bo ≠ Be) (nb : B ≠ Bo ∧ B ≠ Be) (lB : B < W.heap.size) (lo : Bo < W.heap.size) (le : Be < W.heap.size)
   (hB : W.heap[B]? = some (.cells #[.int .i64 i, .slice ao kk mm, err] 201 (0, 0))) (hBo : W.heap[Bo]? = some (.cells ro 51 (0, 0))) (hBe : W.heap[Be]? = some (.cells re 33 (0, 0)))
   (h : ∀ W', ∀ x44 x45 x46 x47 x48 x49 x50 x51 x52 x53 x54 x55 : Value, RelyS (fun b => S b ∧ b ≠ Bo ∧ b ≠ Be) (fun b => M b ∧ b ≠ Bo ∧ b ≠ Be) W W' → W'.heap[Bo]? = some (.cells (ro.toList.take i ++ [Value.slice ao kk mm] ++ ro.toList.drop (i + 1)).toArray 51 (0, 0)) → W'.heap[Be]? = some (.cells (re.toList.take i ++ [err] ++ re.toList.drop (i + 1)).toArray 33 (0, 0)) →
     GoesW Tryd.prog true I S Stop (G ((base 138).at ⟨(List.toArray (v0 :: v1 :: v2 :: v3 :: v4 :: v5 :: .slice (some ⟨Bo, 0, none⟩) n n :: .slice (some ⟨Be, 0, none⟩) n n :: v8 :: v9 :: v10 :: v11 :: v12 :: v13 :: .pointer (some ⟨B, 0, none⟩) :: v15 :: v16 :: v17 :: v18 :: v19 :: v20 :: v21 :: v22 :: v23 :: v24 :: v25 :: v26 :: v27 :: v28 :: v29 :: v30 :: v31 :: v32 :: v33 :: v34 :: v35 :: v36 :: v37 :: v38 :: v39 :: v40 :: v41 :: v42 :: v43 :: x44 :: x45 :: x46 :: x47 :: x48 :: x49 :: x50 :: x51 :: x52 :: x53 :: x54 :: x55 :: v56 :: v57 :: v58 :: v59 :: v60 :: v61 :: [])), []⟩ k) cs) W' M) :
   GoesW Tryd.prog true I S Stop (G ((base 138).at ⟨(List.toArray (v0 :: v1 :: v2 :: v3 :: v4 :: v5 :: .slice (some ⟨Bo, 0, none⟩) n n :: .slice (some ⟨Be, 0, none⟩) n n :: v8 :: v9 :: v10 :: v11 :: v12 :: v13 :: .pointer (some ⟨B, 0, none⟩) :: v15 :: v16 :: v17 :: v18 :: v19 :: v20 :: v21 :: v22 :: v23 :: v24 :: v25 :: v26 :: v27 :: v28 :: v29 :: v30 :: v31 :: v32 :: v33 :: v34 :: v35 :: v36 :: v37 :: v38 :: v39 :: v40 :: v41 :: v42 :: v43 :: x44 :: x45 :: x46 :: x47 :: x48 :: x49 :: x50 :: x51 :: x52 :: x53 :: x54 :: x55 :: v56 :: v57 :: v58 :: v59 :: v60 :: v61 :: [])), []⟩ (.code (.region rid rg19 true) :: k)) cs) W M := by
 simp only [rg19, rs16, lp2, restC, bodyC, Tryd.f138, Option.getD_some]
 refine gw_draw fun W1 r1 t => ?_
 refine drawn_all (X := Unit) rfl (fun l _ a W' M' => J19 S M W Bo Be B n i ao kk mm err ro re v0 v1 v2 v3 v4 v5 v8 v9 v10 v11 v12 v13 v15 v16 v17 v18 v19 v20 v21 v22 v23 v24 v25 v26 v27 v28 v29 v30 v31 v32 v33 v34 v35 v36 v37 v38 v39 v40 v41 v42 v43 v56 v57 v58 v59 v60 v61 l a W' M') (fun _ g W M => GoesW Tryd.prog true I S Stop g W M) ?_ ?_ (x := ()) t ⟨x44, x45, x46, x47, x48, x49, x50, x51, x52, x53, x54, x55, rfl, rfl, r1.mono fun b q => q.imp And.left And.left, by rw [r1.keep _ lo (.inr mo)]; exact hBo, by rw [r1.keep _ le (.inr me)]; exact hBe, fun q => absurd q Bool.false_ne_true, fun q => absurd q Bool.false_ne_true, fun q => absurd q Bool.false_ne_true, fun q => absurd q Bool.false_ne_true, fun q => absurd q Bool.false_ne_true, fun q => absurd q Bool.false_ne_true, fun q => absurd q Bool.false_ne_true, fun q => absurd q Bool.false_ne_true, fun q => absurd q Bool.false_ne_true, fun q => absurd q Bool.false_ne_true, fun q => absurd q Bool.false_ne_true, fun q => absurd q Bool.false_ne_true⟩
 · intro l _ a W' M' i' rest hs hJ hi hK
   replace hK := hK ()
   obtain ⟨l0, l1, l2, l3, l4, l5, l6, l7, l8, l9, l10, l11, l12, l13, rfl⟩ := arr14b l hs
   obtain ⟨x44, x45, x46, x47, x48, x49, x50, x51, x52, x53, x54, x55, rfl, rfl, r, wo, we, j0, j1, j2, j3, j4, j5, j6, j7, j8, j9, j10, j12⟩ := hJ
   have hlt := ready_lt hi
   have hB' : ∀ w, RelyS S M' W' w → w.heap[B]? = some (.cells #[.int .i64 i, .slice ao kk mm, err] 201 (0, 0)) := fun w q => by
     have := r.size
     rw [q.keep B (by omega) (.inr mB), r.keep B lB (.inr ⟨mB, nb⟩)]; exact hB
   rcases (show i' = 0 ∨ i' = 1 ∨ i' = 2 ∨ i' = 3 ∨ i' = 4 ∨ i' = 5 ∨ i' = 6 ∨ i' = 7 ∨ i' = 8 ∨ i' = 9 ∨ i' = 10 ∨ i' = 11 ∨ i' = 12 ∨ i' = 13 by change i' < 14 at hlt; omega) with rfl | rfl | rfl | rfl | rfl | rfl | rfl | rfl | rfl | rfl | rfl | rfl | rfl | rfl
   · skip
     refine gw_val (v := .slice (some ⟨Bo, 0, none⟩) n n) rfl rfl (by k_ne) (fun w => by kernel_rfl) (fun w => by kernel_rfl) ?_
     exact hK _ _ _ ⟨_, _, _, _, _, _, _, _, _, _, _, _, rfl, rfl, r, wo, we, fun _ => rfl, j1, j2, j3, j4, j5, j6, j7, j8, j9, j10, j12⟩
   · skip
     refine gw_val (v := .pointer (some ⟨B, 0, none⟩)) rfl rfl (by k_ne) (fun w => by kernel_rfl) (fun w => by kernel_rfl) ?_
     exact hK _ _ _ ⟨_, _, _, _, _, _, _, _, _, _, _, _, rfl, rfl, r, wo, we, j0, fun _ => rfl, j2, j3, j4, j5, j6, j7, j8, j9, j10, j12⟩
   · skip
     obtain rfl := (j1 (ready_after hi rfl 0 rfl rfl))
     have hc : ∀ w, RelyS S M' W' w → w.cell? ⟨B, 0, none⟩ = some (.int .i64 i) := fun w q => by unfold World.cell?; rw [hB' w q]; rfl
     refine gw_op rfl rfl (by k_ne) (fun wq rq iq Kq hKq => ?_)
     have hl := hc _ rq
     go_simp
     refine hKq _ ?_ ?_
     · intro eq heq
       have hmq := mem_listed heq
       simp [go_sem, *] at hmq
       subst hmq
       exact evOk_rd (.inr mB)
     clear hKq Kq hl rq iq wq
     exact hK _ _ _ ⟨_, _, _, _, _, _, _, _, _, _, _, _, rfl, rfl, r, wo, we, j0, j1, fun _ => rfl, j3, j4, j5, j6, j7, j8, j9, j10, j12⟩
   · skip
     refine gw_val (v := .slice (some ⟨Be, 0, none⟩) n n) rfl rfl (by k_ne) (fun w => by kernel_rfl) (fun w => by kernel_rfl) ?_
     exact hK _ _ _ ⟨_, _, _, _, _, _, _, _, _, _, _, _, rfl, rfl, r, wo, we, j0, j1, j2, fun _ => rfl, j4, j5, j6, j7, j8, j9, j10, j12⟩
   · skip
     refine gw_val (v := .pointer (some ⟨B, 0, none⟩)) rfl rfl (by k_ne) (fun w => by kernel_rfl) (fun w => by kernel_rfl) ?_
     exact hK _ _ _ ⟨_, _, _, _, _, _, _, _, _, _, _, _, rfl, rfl, r, wo, we, j0, j1, j2, j3, fun _ => rfl, j5, j6, j7, j8, j9, j10, j12⟩
   · skip
     obtain rfl := (j4 (ready_after hi rfl 0 rfl rfl))
     have hc : ∀ w, RelyS S M' W' w → w.cell? ⟨B, 0, none⟩ = some (.int .i64 i) := fun w q => by unfold World.cell?; rw [hB' w q]; rfl
     refine gw_op rfl rfl (by k_ne) (fun wq rq iq Kq hKq => ?_)
     have hl := hc _ rq
     go_simp
     refine hKq _ ?_ ?_
     · intro eq heq
       have hmq := mem_listed heq
       simp [go_sem, *] at hmq
       subst hmq
       exact evOk_rd (.inr mB)
     clear hKq Kq hl rq iq wq
     exact hK _ _ _ ⟨_, _, _, _, _, _, _, _, _, _, _, _, rfl, rfl, r, wo, we, j0, j1, j2, j3, j4, fun _ => rfl, j6, j7, j8, j9, j10, j12⟩
   · skip
     refine gw_val (v := .pointer (some ⟨B, 1, none⟩)) rfl rfl (by k_ne) (fun w => by kernel_rfl) (fun w => by kernel_rfl) ?_
     exact hK _ _ _ ⟨_, _, _, _, _, _, _, _, _, _, _, _, rfl, rfl, r, wo, we, j0, j1, j2, j3, j4, j5, fun _ => rfl, j7, j8, j9, j10, j12⟩
   · skip
     obtain rfl := (j6 (ready_after hi rfl 0 rfl rfl))
     have hc : ∀ w, RelyS S M' W' w → w.cell? ⟨B, 1, none⟩ = some (.slice ao kk mm) := fun w q => by unfold World.cell?; rw [hB' w q]; rfl
     refine gw_op rfl rfl (by k_ne) (fun wq rq iq Kq hKq => ?_)
     have hl := hc _ rq
     go_simp
     refine hKq _ ?_ ?_
     · intro eq heq
       have hmq := mem_listed heq
       simp [go_sem, *] at hmq
       subst hmq
       exact evOk_rd (.inr mB)
     clear hKq Kq hl rq iq wq
     exact hK _ _ _ ⟨_, _, _, _, _, _, _, _, _, _, _, _, rfl, rfl, r, wo, we, j0, j1, j2, j3, j4, j5, j6, fun _ => rfl, j8, j9, j10, j12⟩
   · skip
     refine gw_val (v := .pointer (some ⟨B, 2, none⟩)) rfl rfl (by k_ne) (fun w => by kernel_rfl) (fun w => by kernel_rfl) ?_
     exact hK _ _ _ ⟨_, _, _, _, _, _, _, _, _, _, _, _, rfl, rfl, r, wo, we, j0, j1, j2, j3, j4, j5, j6, j7, fun _ => rfl, j9, j10, j12⟩
   · skip
     obtain rfl := (j8 (ready_after hi rfl 0 rfl rfl))
     have hc : ∀ w, RelyS S M' W' w → w.cell? ⟨B, 2, none⟩ = some (err) := fun w q => by unfold World.cell?; rw [hB' w q]; rfl
     refine gw_op rfl rfl (by k_ne) (fun wq rq iq Kq hKq => ?_)
     have hl := hc _ rq
     go_simp
     refine hKq _ ?_ ?_
     · intro eq heq
       have hmq := mem_listed heq
       simp [go_sem, *] at hmq
       subst hmq
       exact evOk_rd (.inr mB)
     clear hKq Kq hl rq iq wq
     exact hK _ _ _ ⟨_, _, _, _, _, _, _, _, _, _, _, _, rfl, rfl, r, wo, we, j0, j1, j2, j3, j4, j5, j6, j7, j8, fun _ => rfl, j10, j12⟩
   · skip
     obtain rfl := (j0 (ready_after hi rfl 0 rfl rfl))
     obtain rfl := (j2 (ready_after hi rfl 1 rfl rfl))
     (refine gw_op rfl rfl (by k_ne) (fun wq rq iq Kq hKq => ?_)
      go_simp
      refine hKq _ ?_ ?_
      · intro eq heq
        have hmq := mem_listed heq
        simp [go_sem, *] at hmq
      clear hKq Kq rq iq wq
      try w_num)
     exact hK _ _ _ ⟨_, _, _, _, _, _, _, _, _, _, _, _, rfl, rfl, r, wo, we, j0, j1, j2, j3, j4, j5, j6, j7, j8, j9, fun _ => rfl, j12⟩
   · skip
     obtain rfl := (j10 (ready_after hi rfl 0 rfl rfl))
     obtain rfl := (j7 (ready_after hi rfl 1 rfl rfl))
     have hnew : l11 = false := ready_new hi
     subst hnew
     have s1 := r.size
     refine gw_store (g := Bo) (off := i) (v := .slice ao kk mm) (cur := ro) rfl rfl (by k_ne) rfl rfl rfl ?_ mo (by omega) wo (by show i + 1 ≤ ro.size; omega) ?_ (fun W2 r2 x2 => ?_)
     · kernel_rfl
     · simp [Value.cells, Value.oneCell']
     exact hK _ _ _ ⟨_, _, _, _, _, _, _, _, _, _, _, _, rfl, rfl, r.trans (r2.mono fun b q => q.imp (fun q => ⟨q.1, q.2.1⟩) (fun q => ⟨q.1, q.2.1⟩)), x2, by rw [r2.keep Be (by omega) (.inr ⟨me, fun e => ne e.symm⟩)]; exact we, j0, j1, j2, j3, j4, j5, j6, j7, j8, j9, j10, j12⟩
   · skip
     obtain rfl := (j3 (ready_after hi rfl 0 rfl rfl))
     obtain rfl := (j5 (ready_after hi rfl 1 rfl rfl))
     (refine gw_op rfl rfl (by k_ne) (fun wq rq iq Kq hKq => ?_)
      go_simp
      refine hKq _ ?_ ?_
      · intro eq heq
        have hmq := mem_listed heq
        simp [go_sem, *] at hmq
      clear hKq Kq rq iq wq
      try w_num)
     exact hK _ _ _ ⟨_, _, _, _, _, _, _, _, _, _, _, _, rfl, rfl, r, wo, we, j0, j1, j2, j3, j4, j5, j6, j7, j8, j9, j10, fun _ => rfl⟩
   · skip
     obtain rfl := (j12 (ready_after hi rfl 0 rfl rfl))
     obtain rfl := (j9 (ready_after hi rfl 1 rfl rfl)).symm
     have hnew : l13 = false := ready_new hi
     subst hnew
     have s1 := r.size
     have hcs : err.cells = #[err] := by rcases herr with rfl | ⟨_, _, rfl⟩ <;> rfl
     refine gw_store (g := Be) (off := i) (v := err) (cur := re) rfl rfl (by k_ne) rfl rfl rfl ?_ me (by omega) we (by rw [hcs]; show i + 1 ≤ re.size; omega) ?_ (fun W2 r2 x2 => ?_)
     · rw [hcs]; kernel_rfl
     · rw [hcs]; rcases herr with rfl | ⟨_, _, rfl⟩ <;> simp [Value.oneCell']
     rw [hcs] at x2
     exact hK _ _ _ ⟨_, _, _, _, _, _, _, _, _, _, _, _, rfl, rfl, r.trans (r2.mono fun b q => q.imp (fun q => ⟨q.1, q.2.2⟩) (fun q => ⟨q.1, q.2.2⟩)), by rw [r2.keep Bo (by omega) (.inr ⟨mo, ne⟩)]; exact wo, x2, j0, j1, j2, j3, j4, j5, j6, j7, j8, j9, j10, j12⟩
 · intro l _ a W' M' hs hJ hr
   obtain ⟨l0, l1, l2, l3, l4, l5, l6, l7, l8, l9, l10, l11, l12, l13, rfl⟩ := arr14b l hs
   obtain ⟨x44, x45, x46, x47, x48, x49, x50, x51, x52, x53, x54, x55, rfl, rfl, r, wo, we, j0, j1, j2, j3, j4, j5, j6, j7, j8, j9, j10, j12⟩ := hJ
   obtain rfl : l0 = true := ready_nil hr (i := 0) rfl (by simp) rfl
   obtain rfl : l1 = true := ready_nil hr (i := 1) rfl (by simp) rfl
   obtain rfl : l2 = true := ready_nil hr (i := 2) rfl (by simp) rfl
   obtain rfl : l3 = true := ready_nil hr (i := 3) rfl (by simp) rfl
   obtain rfl : l4 = true := ready_nil hr (i := 4) rfl (by simp) rfl
   obtain rfl : l5 = true := ready_nil hr (i := 5) rfl (by simp) rfl
   obtain rfl : l6 = true := ready_nil hr (i := 6) rfl (by simp) rfl
   obtain rfl : l7 = true := ready_nil hr (i := 7) rfl (by simp) rfl
   obtain rfl : l8 = true := ready_nil hr (i := 8) rfl (by simp) rfl
   obtain rfl : l9 = true := ready_nil hr (i := 9) rfl (by simp) rfl
   obtain rfl : l10 = true := ready_nil hr (i := 10) rfl (by simp) rfl
   obtain rfl : l11 = true := ready_nil hr (i := 11) rfl (by simp) rfl
   obtain rfl : l12 = true := ready_nil hr (i := 12) rfl (by simp) rfl
   obtain rfl : l13 = true := ready_nil hr (i := 13) rfl (by simp) rfl
   refine gw_region_end ?_
   exact h W' _ _ _ _ _ _ _ _ _ _ _ _ r wo we
end Go.Proofs.YtajnfkmkombajabDoor
namespace Go.Proofs.YtajnfkmkombajabDoor
open Go Go.Conc Go.ConcN Go.RowKit Go.Conc.Lib Go.ConcR.Gen Go.ConcN.Gen
open Go.ConcR (KK wgBlock WgAt stA smA)
theorem put_size {ro : Array Value} {n i : Nat} {v : Value} (h : ro.size = n) (hi : i < n) : (ro.toList.take i ++ [v] ++ ro.toList.drop (i + 1)).toArray.size = n := by
 simp; omega
theorem put_at {ro : Array Value} {n i : Nat} {v : Value} (h : ro.size = n) (hi : i < n) : (ro.toList.take i ++ [v] ++ ro.toList.drop (i + 1)).toArray[i]? = some v := by
 have : (ro.toList.take i).length = i := by simp; omega
 simp only [List.getElem?_toArray, List.append_assoc]
 rw [List.getElem?_append_right (by omega), this]
 simp
theorem put_off {ro : Array Value} {n i k : Nat} {v : Value} (h : ro.size = n) (hi : i < n) (hk : k ≠ i) : (ro.toList.take i ++ [v] ++ ro.toList.drop (i + 1)).toArray[k]? = ro[k]? := by
 have hl : (ro.toList.take i).length = i := by simp; omega
 simp only [List.getElem?_toArray, List.append_assoc]
 rcases Nat.lt_or_ge k i with q | q
 · rw [List.getElem?_append_left (by omega), List.getElem?_take_of_lt q]; simp
 · rw [List.getElem?_append_right (by omega), hl]
   obtain ⟨j, hj⟩ : ∃ j, k - i = j + 1 := ⟨k - i - 1, by omega⟩
   rw [hj]
   simp only [List.cons_append, List.nil_append, List.getElem?_cons_succ, List.getElem?_drop]
   rw [show i + 1 + j = k by omega]; simp
theorem rely_fresh {S M : Nat → Prop} {W W2 W3 : World} {B : Nat} (r2 : RelyS S M W W2) (hB : W.heap.size ≤ B) (r3 : RelyS (fun x => S x ∧ x ≠ B) (fun x => (M x ∨ x = B) ∧ x ≠ B) W2 W3) : RelyS S M W W3 :=
 ⟨by rw [r3.os, r2.os], by rw [r3.out, r2.out], by rw [r3.tape, r2.tape], Nat.le_trans r2.size r3.size, fun b hb hs => by
   rw [r3.keep b (Nat.lt_of_lt_of_le hb r2.size) (hs.imp (fun q => ⟨q, by omega⟩) (fun q => ⟨.inl q, by omega⟩)), r2.keep b hb hs]⟩
section
variable {F : Farm Tryd.prog} {b8 b9 Bh : Nat} {fh : FuncId} {hc : Array Value} {Res : Nat → Value → Value → World → (Nat → Prop) → Prop} {S0 : Nat → Prop} {K J : World → Prop} {Bo Be n : Nat} {cs : List Frame} {got : Nat → Prop} {S M : Nat → Prop} {W W1 : World} {g : Goroutine} {nx rd : Nat}
theorem Lf.put (L : CfLaw F fh hc Res S0 K J) (h : Lf F b8 b9 Bh fh hc Res S0 K J Bo Be n got S M W) {ro re : Array Value} (hro : W.heap[Bo]? = some (.cells ro 51 (0, 0))) (hre : W.heap[Be]? = some (.cells re 33 (0, 0))) (r : RelyS (fun b => S b ∧ b ≠ Bo ∧ b ≠ Be) (fun b => M b ∧ b ≠ Bo ∧ b ≠ Be) W W1)
   {i : Nat} {v err : Value} (hi : i < n) (wo : W1.heap[Bo]? = some (.cells (ro.toList.take i ++ [v] ++ ro.toList.drop (i + 1)).toArray 51 (0, 0))) (we : W1.heap[Be]? = some (.cells (re.toList.take i ++ [err] ++ re.toList.drop (i + 1)).toArray 33 (0, 0)))
   (hh : ∀ ro re : Array Value, ro[i]? = some v → re[i]? = some err → Home Res Bo Be ro re W1 M i) : Lf F b8 b9 Bh fh hc Res S0 K J Bo Be n (fun k => got k ∨ k = i) S M W1 := by
 obtain ⟨ro', re', h1, h2, h3, h4, h5⟩ := h.rows
 rw [hro] at h3; cases h3
 rw [hre] at h4; cases h4
 have c := h.cf
 have sz := r.size
 have cell : ∀ {b : Nat} {v : Value}, F.pub S M b → b = b8 ∨ b = b9 ∨ b = Bh → W.cell? ⟨b, 0, none⟩ = some v → W1.cell? ⟨b, 0, none⟩ = some v := fun {b v} hp hb hv => cell_rely r ((pub_or hp).imp (fun q => ⟨q, h.so b (.inr hb)⟩) (fun q => ⟨q, h.so b (.inr hb)⟩)) hv
 have s0' : ∀ b, S0 b → (S b ∧ b ≠ Bo ∧ b ≠ Be) ∨ (M b ∧ b ≠ Bo ∧ b ≠ Be) := fun b q => (pub_or (c.s0 b q)).imp (fun p => ⟨p, h.so b (.inl q)⟩) (fun p => ⟨p, h.so b (.inl q)⟩)
 refine ⟨⟨⟨c.nW.1, c.nW.2.1, by have := c.nW.2.2; omega⟩, ⟨c.nT.1, c.nT.2.1, by have := c.nT.2.2; omega⟩, c.m8, c.m9, c.mh, cell c.m8 (.inl rfl) c.c8, cell c.m9 (.inr (.inl rfl)) c.c9, cell c.mh (.inr (.inr rfl)) c.ch, fun b q => by have := c.prl b q; omega, c.prm, c.s0, L.hk _ _ (r.mono fun b q => q.elim (s0' b) fun q => .inr ⟨c.prm b q, fun e => h.po.1 (e ▸ q), fun e => h.po.2 (e ▸ q)⟩) c.k, L.hj _ _ (r.mono fun b q => q.elim (s0' b) False.elim) c.j⟩,
   h.mo, h.me, h.ne, by have := h.lo; omega, by have := h.le; omega, h.po, h.so, _, _, put_size h1 hi, put_size h2 hi, wo, we, fun k hk => ?_⟩
 by_cases e : k = i
 · subst e; exact hh _ _ (put_at h1 hi) (put_at h2 hi)
 · obtain ⟨Mi, ao, kk, m, er, q1, q2, q3, q4, q5⟩ := h5 k (hk.resolve_right e)
   exact ⟨Mi, ao, kk, m, er, fun b q => ⟨(q1 b q).1, (q1 b q).2.1, (q1 b q).2.2.1, by have := (q1 b q).2.2.2; omega⟩, by rw [put_off h1 hi e]; exact q2, by rw [put_off h2 hi e]; exact q3, q4, L.stays _ _ _ _ _ _ q5 (r.mono fun b q => q.elim (s0' b) fun q => .inr ⟨(q1 b q).1, (q1 b q).2.1, (q1 b q).2.2.1⟩)⟩
set_option maxRecDepth 100000 in
set_option maxHeartbeats 4000000 in
theorem selA_get (L : CfLaw F fh hc Res S0 K J) (C : SelLaw F) (hn : n < 9223372036854775807) (hS : ∀ S nx rd got g W M, SelA F b8 b9 Bh fh hc Res S0 K J Bo Be n cs S nx rd got g W M → F.Sel S nx rd got g W M) (hmany : F.many = n)
   (hZ : ∀ T W1 M, T.size = 62 → T[0]? = some (.int .i64 n) ∧ T[6]? = some (.slice (some ⟨Bo, 0, none⟩) n n) ∧ T[7]? = some (.slice (some ⟨Be, 0, none⟩) n n) ∧ T[8]? = some (.pointer (some ⟨b8, 0, none⟩)) ∧ T[9]? = some (.pointer (some ⟨b9, 0, none⟩)) ∧ T[10]? = some (.pointer (some ⟨F.Wg, 0, none⟩)) → Lf F b8 b9 Bh fh hc Res S0 K J Bo Be n (fun k => k < n) S M W1 → F.Go true S (F.Cl S) (G ((base 138).at ⟨T, []⟩ [.code endC]) cs) W1 M)
   {i : Nat} {v : Value} {S' M' : Nat → Prop} (h : SelA F b8 b9 Bh fh hc Res S0 K J Bo Be n cs S nx rd got g W M) (hi : i < F.many) (hd : DelivA Res S' i v W M') (hm : ∀ b, M' b → b < W.heap.size ∧ ¬ M b ∧ ¬ S b) (hall : rd + 1 = F.many → ∀ k, k < F.many → got k ∨ k = i) :
   F.Go true S (F.Turn S nx (rd + 1) fun k => got k ∨ k = i) (g.finishComm Tryd.prog (F.selC nx) .select 1 v true) W (fun b => M b ∨ M' b) := by
 obtain ⟨h, hx, hr, T, hT, hs, rfl⟩ := h
 obtain ⟨ao, kk, mm, err, rfl, herr, hres⟩ := hd
 rw [hmany] at hi hall
 have C1 := C.get nx (.agg #[.int .i64 i, .slice ao kk mm, err])
 have hlf : Lf F b8 b9 Bh fh hc Res S0 K J Bo Be n got S (fun b => M b ∨ M' b) W := h.more (fun b q => .inl q) ⟨fun q => q.elim h.cf.nW.2.1 (L.resW _ _ _ _ _ hres).1, fun q => q.elim h.cf.nT.2.1 (L.resW _ _ _ _ _ hres).2⟩
 have hend := fun T W1 M hT hs (hl : Lf F b8 b9 Bh fh hc Res S0 K J Bo Be n (fun k => got k ∨ k = i) S M W1) => turnA L hn hS hmany nx (rd + 1) hx (by omega) (fun e => hall e) T hT hs hl (fun T W1 => hZ T W1 M)
 clear hZ
 obtain ⟨v0, v1, v2, v3, v4, v5, v6, v7, v8, v9, v10, v11, v12, v13, v14, v15, v16, v17, v18, v19, v20, v21, v22, v23, v24, v25, v26, v27, v28, v29, v30, v31, v32, v33, v34, v35, v36, v37, v38, v39, v40, v41, v42, v43, v44, v45, v46, v47, v48, v49, v50, v51, v52, v53, v54, v55, v56, v57, v58, v59, v60, v61, rfl⟩ := arr62 T hT
 simp only [List.getElem?_toArray, List.getElem?_cons_zero, List.getElem?_cons_succ, Option.some.injEq] at hs
 obtain ⟨rfl, rfl, rfl, rfl, rfl, rfl, rfl, rfl, rfl, rfl, rfl⟩ := hs
 rw [show ∀ (g : Goroutine) (cs : Array CommCase) (k : Int) (v : Value) (ok : Bool), g.finishComm Tryd.prog cs .select k v ok = Go.Conc.served g (commResult cs .select k v ok) from fun _ _ _ _ _ => rfl, C1, served_at]
 revert hend
 generalize lp2 = lq
 generalize endC = ec
 generalize hrg : rg19 = r19
 intro hend
 simp only [rg16, rs16, lp2, restC, bodyC, Tryd.f138, Option.getD_some]
 walk_nrm
 repeat (first
   | refine gw_seq ?_
   | refine gw_skip ?_
   | refine gw_block ?_
   | refine gw_loop ?_
   | refine gw_inLoop ?_
   | refine gw_inBlock ?_
   | refine gw_region_end ?_
   | refine gw_label ?_
   | refine gw_ret ?_
   | (refine gw_region ?_; simp only [List.size_toArray, List.length_cons, List.length_nil, Nat.reduceAdd, Nat.zero_add, List.range, List.range.loop])
   | refine gw_exit rfl ?_
   | refine gw_yes rfl ?_
   | refine gw_no rfl ?_
   | (refine gw_op rfl rfl (by k_ne) (fun wq rq iq Kq hKq => ?_)
      go_simp
      refine hKq _ ?_ ?_
      · intro eq heq
        have hmq := mem_listed heq
        simp [go_sem, *] at hmq
      clear hKq Kq rq iq wq
      try w_num)
   | (refine gw_unwanted rfl rfl ?_; walk_nrm)
   | (refine gw_defer rfl rfl (by k_ne) rfl ?_; walk_nrm))
 obtain ⟨t2, e201, z201⟩ := Option.map_eq_some_iff.1 i201x
 refine gw_push (v := fun B => .pointer (some ⟨B, 0, none⟩)) (ob := .cells #[.int .i64 0, .slice none 0 0, .nilIface] 201 (0, 0)) rfl rfl (by k_ne) (fun w _ _ => ?_) (fun w _ _ e he => ?_) (fun W2 B r2 l2 g2 x2 => ?_)
 · go_simp
 · have hm := mem_listed he
   simp [go_sem] at hm
 walk_nrm
 have hcs : err.cells = #[err] := by rcases herr with rfl | ⟨_, _, rfl⟩ <;> rfl
 have hlf2 := (hlf.rely L r2).more (M' := fun x => (M x ∨ M' x) ∨ x = B) (fun b q => .inl q) ⟨fun q => q.elim hlf.cf.nW.2.1 fun q => by have := hlf.cf.nW.2.2; omega, fun q => q.elim hlf.cf.nT.2.1 fun q => by have := hlf.cf.nT.2.2; omega⟩
 have nbo : B ≠ Bo := by have := h.lo; omega
 have nbe : B ≠ Be := by have := h.le; omega
 refine gw_store (g := B) (off := 0) (v := .agg #[.int .i64 i, .slice ao kk mm, err]) (cur := #[.int .i64 0, .slice none 0 0, .nilIface]) rfl rfl (by k_ne) rfl rfl rfl ?_ (.inr rfl) g2 x2 (by simp [Value.cells]) ?_ (fun W3 r3 x3 => ?_)
 · simp only [Value.cells]; kernel_rfl
 · simp [Value.cells, Value.oneCell']
   rcases herr with rfl | ⟨_, _, rfl⟩ <;> simp
 simp only [Value.cells, List.take_zero, List.nil_append, List.size_toArray, List.length_cons, List.length_nil, Nat.reduceAdd, Nat.zero_add, List.drop_succ_cons, List.drop_nil, List.drop_zero, List.append_nil, Array.toArray_toList] at x3
 walk_nrm
 repeat (first
   | refine gw_seq ?_
   | refine gw_skip ?_
   | refine gw_block ?_
   | refine gw_loop ?_
   | refine gw_inLoop ?_
   | refine gw_inBlock ?_
   | refine gw_region_end ?_
   | refine gw_label ?_
   | refine gw_ret ?_
   | (refine gw_region ?_; simp only [List.size_toArray, List.length_cons, List.length_nil, Nat.reduceAdd, Nat.zero_add, List.range, List.range.loop])
   | refine gw_exit rfl ?_
   | refine gw_yes rfl ?_
   | refine gw_no rfl ?_)
 have r03 := rely_fresh r2 l2 r3
 have hlf3 := (hlf.rely L r03).more (M' := fun x => (M x ∨ M' x) ∨ x = B) (fun b q => .inl q) ⟨fun q => q.elim hlf.cf.nW.2.1 fun q => by have := hlf.cf.nW.2.2; omega, fun q => q.elim hlf.cf.nT.2.1 fun q => by have := hlf.cf.nT.2.2; omega⟩
 obtain ⟨ro, re, hro, hre, hBo, hBe, -⟩ := hlf3.rows
 subst hrg
 refine reg19 (rid := 19) hi hn hro hre herr (.inr rfl) (.inl (.inl h.mo)) (.inl (.inl h.me)) h.ne ⟨nbo, nbe⟩ (by have := r3.size; omega) hlf3.lo hlf3.le x3 hBo hBe (fun W4 x44 x45 x46 x47 x48 x49 x50 x51 x52 x53 x54 x55 r4 wo we => ?_)
 repeat (first
   | refine gw_seq ?_
   | refine gw_skip ?_
   | refine gw_block ?_
   | refine gw_loop ?_
   | refine gw_inLoop ?_
   | refine gw_inBlock ?_
   | refine gw_region_end ?_
   | refine gw_label ?_
   | refine gw_ret ?_
   | (refine gw_region ?_; simp only [List.size_toArray, List.length_cons, List.length_nil, Nat.reduceAdd, Nat.zero_add, List.range, List.range.loop])
   | refine gw_exit rfl ?_
   | refine gw_yes rfl ?_
   | refine gw_no rfl ?_
   | (refine gw_op rfl rfl (by k_ne) (fun wq rq iq Kq hKq => ?_)
      go_simp
      refine hKq _ ?_ ?_
      · intro eq heq
        have hmq := mem_listed heq
        simp [go_sem, *] at hmq
      clear hKq Kq rq iq wq
      try w_num)
   | (refine gw_unwanted rfl rfl ?_; walk_nrm)
   | (refine gw_defer rfl rfl (by k_ne) rfl ?_; walk_nrm))
 rw [show IntKind.i64.wrap ((rd : Int) + 1) = ((rd + 1 : Nat) : Int) by rw [IntKind.wrap_i64]; omega]
 refine hend _ W4 _ rfl ⟨rfl, rfl, rfl, rfl, rfl, rfl, rfl, rfl⟩ (hlf3.put L hBo hBe r4 hi wo we fun ro re q1 q2 => ⟨M', ao, kk, mm, err, fun b q => ⟨.inl (.inr q), fun e => (hm b q).2.1 (e ▸ h.mo), fun e => (hm b q).2.1 (e ▸ h.me), ?_⟩, q1, q2, herr, ?_⟩)
 · have := (hm b q).1
   have := r03.size
   have := r4.size
   omega
 · refine L.stays _ _ _ _ _ _ hres ⟨by rw [r4.os, r03.os], by rw [r4.out, r03.out], by rw [r4.tape, r03.tape], Nat.le_trans r03.size r4.size, fun b hb hs => ?_⟩
   have h1 : S b ∨ M b ∨ M' b := hs.elim (fun q => (pub_or (h.cf.s0 b q)).imp id .inl) fun q => .inr (.inr q)
   have h2 : b ≠ Bo ∧ b ≠ Be := hs.elim (fun q => h.so b (.inl q)) fun q => ⟨fun e => (hm b q).2.1 (e ▸ h.mo), fun e => (hm b q).2.1 (e ▸ h.me)⟩
   rw [r4.keep b (Nat.lt_of_lt_of_le hb r03.size) (h1.imp (fun q => ⟨q, h2⟩) (fun q => ⟨.inl q, h2⟩)), r03.keep b hb h1]
end
end Go.Proofs.YtajnfkmkombajabDoor
