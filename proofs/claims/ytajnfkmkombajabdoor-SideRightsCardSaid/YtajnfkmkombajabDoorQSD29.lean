/-
  side.Rights, behind its workers, alone: the first error, with its place; or all that was made.
  side.Rights' front in company: to the call of side.all.
  SideRights, from its entry through abreast to the call of side.all.
  The end of goroutine 0; a lone contract to the end. No program in sight.
  The functions that only look at numbers: lifted without == of pointers; a closed check.
  Plain: the document's columns are those of package draw, at each step. No program in sight.
-/
import Derived.Test.YtajnfkmkombajabDoorQSD28
import Derived.Test.YtajnfkmkombajabDoorQSD24
import Derived.Test.YtajnfkmkombajabDoorProg
import Derived.Test.YtajnfkmkombajabDoorQSD16
import Derived.Test.YtajnfkmkombajabDoorQSD22
import Derived.Test.YtajnfkmkombajabDoorQSD23
import Derived.Test.YtajnfkmkombajabDoorQSD25
set_option linter.unusedVariables false
set_option linter.unusedSimpArgs false
namespace Go.Proofs.YtajnfkmkombajabDoor
open Go.RowKit Go.Conc Go.ConcN
noncomputable def bodyR : Code := (Tryd.f99.body).getD .skip
noncomputable def restR : Code := match bodyR with | .seq _ (.seq _ (.seq _ c)) => c | _ => .skip
def ErrAt (A : Nat → Addr) (w : World) (v : Value) (f : Nat × Int) : Prop :=
 (f.2 = -1 ∧ v = ev A f.1) ∨ (0 ≤ f.2 ∧ ∃ g : Nat, v = .iface 134 (.pointer (some ⟨g, 0, none⟩)) ∧ w.cell? ⟨g, 0, none⟩ = some (.int .i64 f.2) ∧ w.cell? ⟨g, 1, none⟩ = some (ev A f.1))
def RestPost (A : Nat → Addr) (n : Nat) (outv : Value) (Fs : Nat → Nat × Int) (w : World) (v : Value) (w' : World) : Prop :=
 Below w.heap.size w w' ∧ (((∀ i, i < n → (Fs i).1 = 0) ∧ v = .tuple #[outv, .nilIface]) ∨
   ∃ i, i < n ∧ (∀ j, j < i → (Fs j).1 = 0) ∧ (Fs i).1 ≠ 0 ∧ ∃ x, v = .tuple #[.slice none 0 0, x] ∧ ErrIs A w w' x ((Fs i).1, (i : Int)))
set_option maxRecDepth 100000 in
set_option maxHeartbeats 4000000 in
theorem rights_rest (A : Nat → Addr) (Be n capE : Nat) (outv : Value) (Fs : Nat → Nat × Int) (w : World) (hS : Sents A w) (hn : n < 1000000)
   (hE : ∀ i, i < n → ∃ v, w.cell? ⟨Be, i, none⟩ = some v ∧ ErrAt A w v (Fs i) ∧ (Fs i).1 ≤ 10 ∧ ((Fs i).1 = 0 → (Fs i).2 = -1)) (v0 v1 v2 v3 v4 v5 v6 v7 v8 v9 v10 v11 v12 v15 v16 v17 v18 v19 v20 v21 v22 v23 v24 v25 v26 v27 v28 v29 v30 v31 v32 v33 v34 v35 v36 v37 v38 v39 v40 v41 v42 v43 v44 v45 v46 v47 v48 v49 v50 v51 v52 v53 v54 v55 : Value) :
   restR.wp Tryd.prog (bodyPost Tryd.prog Tryd.f99 fun e w' => ∃ v, e = .returned v ∧ RestPost A n outv Fs w v w') ⟨(List.toArray (v0 :: v1 :: v2 :: v3 :: v4 :: v5 :: v6 :: v7 :: v8 :: v9 :: v10 :: v11 :: v12 :: outv :: (.slice (some ⟨Be, 0, none⟩) n capE) :: v15 :: v16 :: v17 :: v18 :: v19 :: v20 :: v21 :: v22 :: v23 :: v24 :: v25 :: v26 :: v27 :: v28 :: v29 :: v30 :: v31 :: v32 :: v33 :: v34 :: v35 :: v36 :: v37 :: v38 :: v39 :: v40 :: v41 :: v42 :: v43 :: v44 :: v45 :: v46 :: v47 :: v48 :: v49 :: v50 :: v51 :: v52 :: v53 :: v54 :: v55 :: [])), []⟩ w := by
 have HS := Lib.hid hS; clear hS
 have HE := Lib.hid hE; clear hE
 simp only [restR, bodyR, Tryd.f99, Option.getD_some]
 go_wp2_with fail
 go_loopg [35] n (fun g i wr => ∃ k : Nat, g + k = n ∧ i = .int .i64 k ∧ w = wr ∧ ∀ j, j < k → (Fs j).1 = 0)
 case atStart => exact ⟨0, rfl, rfl, rfl, fun j hj => absurd hj (Nat.not_lt_zero _)⟩
 case round =>
   obtain ⟨k, hg, rfl, rfl, hz⟩ := hrel
   have HG := Lib.hid hg; clear hg
   have HZ := Lib.hid hz; clear hz
   by_cases hlt : k < n
   · have k0 : (0 : Int) ≤ (k : Int) := Int.natCast_nonneg _
     have k1 : (k : Int) < (n : Int) := by exact_mod_cast hlt
     obtain ⟨v, hv, he, h10, h0⟩ := HE.out k hlt
     by_cases hf : (Fs k).1 = 0
     · have hv0 : v = .nilIface := by
         rcases he with ⟨_, e⟩ | ⟨e, _⟩
         · rw [e, hf]; rfl
         · have := h0 hf; omega
       subst hv0
       have HF := Lib.hid hf
       clear he h10 h0 hf
       go_wp2_with fail
       have hg := HG.out
       go_roundg (n - (k + 1))
       case measure => omega
       case rel => exact ⟨k + 1, by omega, by go_num, rfl, fun j hj => (Nat.lt_succ_iff_lt_or_eq.1 hj).elim (HZ.out j) fun q => q ▸ HF.out⟩
     · have hb0 : Below w.heap.size w (w.alloc (.cells #[.pointer none] 134)) := (Below.refl _ _).alloc (Nat.le_refl _) _
       rcases he with ⟨ha, e⟩ | ⟨ha, g, e, c0, c1⟩
       · rw [ev_some A hf] at e
         subst e
         have HF := Lib.hid (And.intro hf ha)
         have HB0 := Lib.hid hb0
         have HA := Lib.hid (as_miss (.pointer (some (A (Fs k).1))) ⟨w.heap.size, 0, none⟩ _ (HS.out.below hb0).typ)
         clear ha hf h0 hb0
         go_wp2_with fail
         refine HA.out.mono ?_
         rintro e w1 ⟨rfl, b1⟩
         have b01 := btrans HB0.out b1
         have HB := Lib.hid b01
         clear b1 b01 HA
         go_wp2_with fail
         go_ret2
         refine ⟨_, rfl, HB.out.alloc HB.out.size _, .inr ⟨k, hlt, HZ.out, HF.out.1, _, rfl, .inr ⟨Int.natCast_nonneg _, w1.heap.size, HB.out.size, rfl, by simp [go_sem], ?_⟩⟩⟩
         rw [ev_some A HF.out.1]
         simp [go_sem]
       · subst e
         rw [ev_some A hf] at c1
         have HF := Lib.hid hf
         have HB0 := Lib.hid hb0
         have hgl := World.block_lt_of_cell? _ _ c0
         have HC1 := Lib.hid c1
         have HA := Lib.hid (as_hit ⟨g, 0, none⟩ ⟨w.heap.size, 0, none⟩ (.pointer none) _ (HS.out.below hb0).typ (by simp) (by simp))
         clear ha hf h0 hb0 c0 c1
         go_wp2_with fail
         refine HA.out.mono ?_
         rintro e w1 ⟨rfl, k1', ht⟩
         have b01 : Below w.heap.size w w1 := Keep.after HB0.out k1' (fun i hi => by rw [hi]; exact Nat.le_refl _)
         have q1 := HC1.out
         rw [← b01.cell (p := ⟨g, 1, none⟩) hgl] at q1
         have HB := Lib.hid b01
         clear k1' b01 HA
         go_wp2_with fail
         go_ret2
         refine ⟨_, rfl, HB.out.alloc HB.out.size _, .inr ⟨k, hlt, HZ.out, HF.out, _, rfl, .inr ⟨Int.natCast_nonneg _, w1.heap.size, HB.out.size, rfl, by simp [go_sem], ?_⟩⟩⟩
         rw [ev_some A HF.out]
         simp [go_sem]
   · have hkn : k = n := by have := HG.out; omega
     subst hkn
     have HFN := Lib.hid (show RestPost A k outv Fs w (.tuple #[outv, .nilIface]) w from ⟨Below.refl _ _, .inl ⟨HZ.out, rfl⟩⟩)
     clear hlt
     go_wp2_with fail
     go_ret2
     exact ⟨_, rfl, HFN.out⟩
end Go.Proofs.YtajnfkmkombajabDoor
namespace Go.Proofs.YtajnfkmkombajabDoor
open Go Go.Conc Go.ConcN Go.RowKit Go.Conc.Lib Go.ConcR.Gen Go.ConcN.Gen
theorem gw_callE {P : Program} {mn : Bool} {I : World → Prop} {S M : Nat → Prop} {Stop : Goroutine → World → (Nat → Prop) → Prop} {b : Frame} {a : Act} {k : List Item} {cs : List Frame} {W : World} {ops : Array Oper} {i : Nat} {rest : List Nat} {o : Oper} {f : FuncId} {fn : Func} {c : Code} {args : Array Operand} {ats : Array TypeId} {x : Array Value}
   (ho : ops[i]? = some o) (hw : Region.wanted o (yielded ops a.tmps) = true) (hk : b.kind ≠ .early) (hop : o.op = .call { callee := .value (.func f), args, argTypes := ats })
   (hf : P.funcs[f]? = some fn) (hname : (fn.name == "runtime.NumGoroutine") = false) (hb : fn.body = some c) (hx : args.map a.eval = x)
   (h : GoesW P mn I S Stop (G (Frame.enter P f x .normal) (b.at a (.inRegion ops (i :: rest) :: k) :: cs)) W M) :
   GoesW P mn I S Stop (G (b.at a (.inRegion ops (i :: rest) :: k)) cs) W M := by
 refine gw_call ho hw hk hop hf hname hb ?_
 rw [hx]
 rw [enter_at (fn := fn) (c := c) x hf hb] at h
 exact h
noncomputable def rgR4 : Array Oper := match bodyR with | .seq _ (.seq _ (.seq (.region _ ops _) _)) => ops | _ => #[]
section
variable {n0 : Nat} {A : Nat → Addr} {W0 : World} {ao : Option Addr} {cap : Nat} {zs : List Int} {s : Nat} {c : Int} {al : Option Addr} {capl : Nat} {ls : List Int} {wk : Int}
noncomputable def frR (ao : Option Addr) (cap : Nat) (zs : List Int) (s : Nat) (c : Int) (al : Option Addr) (capl : Nat) (ls : List Int) (wk : Int) (b5 b6 b7 b8 : Nat) : Frame := (base 99).at ⟨(List.toArray (.slice ao zs.length cap :: .int .u64 s :: .int .i64 c :: .slice al ls.length capl :: .int .i64 wk :: .pointer (some ⟨b5, 0, none⟩) :: .pointer (some ⟨b6, 0, none⟩) :: .pointer (some ⟨b7, 0, none⟩) :: .pointer (some ⟨b8, 0, none⟩) :: undef :: .slice none 0 0 :: .nilIface :: .nilIface :: undef :: undef :: undef :: undef :: undef :: .int .i64 wk :: .slice al ls.length capl :: .int .i64 (ls.length : Int) :: .nilIface :: .nilIface :: .bool false :: undef :: undef :: .slice al ls.length capl :: .int .i64 (ls.length : Int) :: .int .i64 wk :: .func (.func 139) #[] #[.pointer (some ⟨b5, 0, none⟩), .pointer (some ⟨b6, 0, none⟩), .pointer (some ⟨b7, 0, none⟩), .pointer (some ⟨b8, 0, none⟩)] :: undef :: undef :: undef :: undef :: undef :: undef :: undef :: undef :: undef :: undef :: undef :: undef :: undef :: undef :: undef :: undef :: undef :: undef :: undef :: undef :: undef :: undef :: undef :: undef :: undef :: undef :: [])), []⟩ [.inRegion rgR4 [4, 5, 6, 7, 8, 9], .code restR]
def AtAll (n0 : Nat) (A : Nat → Addr) (W0 : World) (ao : Option Addr) (cap : Nat) (zs : List Int) (s : Nat) (c : Int) (al : Option Addr) (capl : Nat) (ls : List Int) (wk : Int) (Cs : List Frame) (S : Nat → Prop) (g : Goroutine) (W : World) (M : Nat → Prop) : Prop :=
 ∃ b5 b6 b7 b8, g = G (frR ao cap zs s c al capl ls wk b5 b6 b7 b8) Cs ∧ Below n0 W0 W ∧ TaskW n0 A ao cap zs s c al capl ls b5 b6 b7 b8 W ∧ ∀ b, taskS n0 ao zs.length al ls.length b5 b6 b7 b8 b → S b ∨ M b
theorem below_rely {n0 : Nat} {W0 W W1 : World} {S M : Nat → Prop} (h : Below n0 W0 W) (hs : n0 ≤ W.heap.size) (r : RelyS S M W W1) (hS : ∀ b, b < n0 → S b ∨ M b) : Below n0 W0 W1 :=
 ⟨r.os.trans h.os, r.tape.trans h.tape, r.out.trans h.output, Nat.le_trans h.size r.size, fun b hb => by rw [r.keep b (by omega) (hS b hb)]; exact h.block b hb⟩
theorem init_rely {n0 : Nat} {A : Nat → Addr} {W W1 : World} {S M : Nat → Prop} (h : Init n0 A W) (r : RelyS S M W W1) (hS : ∀ b, b < n0 → S b ∨ M b) : Init n0 A W1 :=
 h.kept (fun b hb => r.keep b (by have := h.size; omega) (hS b hb)) (Nat.le_trans h.size r.size)
theorem rowB_rely {n0 : Nat} {W W1 : World} {S M : Nat → Prop} {ao : Option Addr} {cap : Nat} {zs : List Int} (h : RowB n0 W ao cap zs) (r : RelyS S M W W1) (hm : ∀ b n, (b, n) ∈ rowL ao zs.length → S b ∨ M b) : RowB n0 W1 ao cap zs :=
 h.kept fun b n m => r.keep b (h.lt m) (hm b n m)
set_option maxRecDepth 100000 in
set_option maxHeartbeats 8000000 in
theorem rights_front {S M : Nat → Prop} {W : World} {Cs : List Frame} (hI : Init n0 A W) (hB : Below n0 W0 W) (hS : ∀ b, b < n0 → S b ∨ M b) (h1 : decide (wk < 1) = false) (h2 : decide (16 < wk) = false) (h3 : decide (100 < (ls.length : Int)) = false)
   (hrw : RowB n0 W ao cap zs) (hrl : RowB n0 W al capl ls) (mr : ∀ b n, (b, n) ∈ rowL ao zs.length → S b ∨ M b) (ml : ∀ b n, (b, n) ∈ rowL al ls.length → S b ∨ M b) :
   GoesW Tryd.prog true (fun _ => True) S (AtAll n0 A W0 ao cap zs s c al capl ls wk Cs S) (G (Frame.enter Tryd.prog 99 #[.slice ao zs.length cap, .int .u64 s, .int .i64 c, .slice al ls.length capl, .int .i64 wk] .normal) Cs) W M := by
 rw [enter_at (fn := Tryd.f99) (c := bodyR) _ Tryd.func99 rfl]
 have hsz := hI.size
 simp only [bodyR, Tryd.f99, Option.getD_some]
 generalize hm : (ls.length : Int) = mi at h3
 walk_nrm
 repeat (first
   | refine gw_seq ?_
   | refine gw_skip ?_
   | refine gw_block ?_
   | refine gw_loop ?_
   | refine gw_inLoop ?_
   | refine gw_inBlock ?_
   | refine gw_region_end ?_
   | refine gw_label ?_
   | refine gw_ret ?_
   | (refine gw_region ?_; simp only [List.size_toArray, List.length_cons, List.length_nil, Nat.reduceAdd, Nat.zero_add, List.range, List.range.loop])
   | refine gw_exit rfl ?_
   | refine gw_yes rfl ?_
   | refine gw_no rfl ?_)
 refine gw_push (v := fun B => .pointer (some ⟨B, 0, none⟩)) (ob := .cells #[.slice ao zs.length cap] 51 (0, 0)) rfl rfl (by k_ne) (fun w _ _ => by go_simp) (fun w _ _ e he => by have hm := mem_listed he; simp [go_sem] at hm) (fun W5 b5 r5 l5 g5 x5 => ?_)
 walk_nrm
 refine gw_push (v := fun B => .pointer (some ⟨B, 0, none⟩)) (ob := .cells #[.int .u64 s] 94 (0, 0)) rfl rfl (by k_ne) (fun w _ _ => by go_simp) (fun w _ _ e he => by have hm := mem_listed he; simp [go_sem] at hm) (fun W6 b6 r6 l6 g6 x6 => ?_)
 walk_nrm
 refine gw_push (v := fun B => .pointer (some ⟨B, 0, none⟩)) (ob := .cells #[.int .i64 c] 3 (0, 0)) rfl rfl (by k_ne) (fun w _ _ => by go_simp) (fun w _ _ e he => by have hm := mem_listed he; simp [go_sem] at hm) (fun W7 b7 r7 l7 g7 x7 => ?_)
 walk_nrm
 refine gw_push (v := fun B => .pointer (some ⟨B, 0, none⟩)) (ob := .cells #[.slice al ls.length capl] 51 (0, 0)) rfl rfl (by k_ne) (fun w _ _ => by go_simp) (fun w _ _ e he => by have hm := mem_listed he; simp [go_sem] at hm) (fun W8 b8 r8 l8 g8 x8 => ?_)
 walk_nrm
 repeat (first
   | refine gw_seq ?_
   | refine gw_skip ?_
   | refine gw_block ?_
   | refine gw_loop ?_
   | refine gw_inLoop ?_
   | refine gw_inBlock ?_
   | refine gw_region_end ?_
   | refine gw_label ?_
   | refine gw_ret ?_
   | (refine gw_region ?_; simp only [List.size_toArray, List.length_cons, List.length_nil, Nat.reduceAdd, Nat.zero_add, List.range, List.range.loop])
   | refine gw_exit rfl ?_
   | refine gw_yes rfl ?_
   | refine gw_no rfl ?_
   | (refine gw_op rfl rfl (by k_ne) (fun wq rq iq Kq hKq => ?_)
      go_simp
      refine hKq _ ?_ ?_
      · intro eq heq
        have hmq := mem_listed heq
        simp [go_sem, *] at hmq
      clear hKq Kq rq iq wq
      try w_num)
   | (refine gw_unwanted rfl rfl ?_; walk_nrm)
   | (refine gw_defer rfl rfl (by k_ne) rfl ?_; walk_nrm))
 have s5 := r5.size
 have s6 := r6.size
 have s7 := r7.size
 have s8 := r8.size
 have k8 : W8.cell? ⟨b8, 0, none⟩ = some (.slice al ls.length capl) := by rw [at_cell x8]; rfl
 refine gw_op rfl rfl (by k_ne) (fun wq rq iq Kq hKq => ?_)
 have hl := cell_rely rq (.inr (.inr rfl)) k8
 go_simp
 refine hKq _ ?_ ?_
 · intro eq heq
   have hmq := mem_listed heq
   simp [go_sem, *] at hmq
   subst hmq
   exact evOk_rd (.inr (.inr rfl))
 clear hKq Kq hl rq iq wq
 (refine gw_op rfl rfl (by k_ne) (fun wq rq iq Kq hKq => ?_)
  go_simp
  refine hKq _ ?_ ?_
  · intro eq heq
    have hmq := mem_listed heq
    simp [go_sem, *] at hmq
  clear hKq Kq rq iq wq
  try w_num)
 refine gw_call rfl rfl (by k_ne) rfl Tryd.func137 (by kernel_rfl) rfl ?_
 walk_nrmf Tryd.f137
 repeat (first
   | refine gw_seq ?_
   | refine gw_skip ?_
   | refine gw_block ?_
   | refine gw_loop ?_
   | refine gw_inLoop ?_
   | refine gw_inBlock ?_
   | refine gw_region_end ?_
   | refine gw_label ?_
   | refine gw_ret ?_
   | (refine gw_region ?_; simp only [List.size_toArray, List.length_cons, List.length_nil, Nat.reduceAdd, Nat.zero_add, List.range, List.range.loop])
   | refine gw_exit rfl ?_
   | refine gw_yes rfl ?_
   | refine gw_no rfl ?_
   | (refine gw_op rfl rfl (by k_ne) (fun wq rq iq Kq hKq => ?_)
      go_simp
      refine hKq _ ?_ ?_
      · intro eq heq
        have hmq := mem_listed heq
        simp [go_sem, *] at hmq
      clear hKq Kq rq iq wq
      try w_num)
   | (refine gw_unwanted rfl rfl ?_; walk_nrm)
   | (refine gw_defer rfl rfl (by k_ne) rfl ?_; walk_nrm))
 refine gw_leave1 rfl rfl Tryd.func137 rfl ?_
 walk_nrm
 repeat (first
   | refine gw_seq ?_
   | refine gw_skip ?_
   | refine gw_block ?_
   | refine gw_loop ?_
   | refine gw_inLoop ?_
   | refine gw_inBlock ?_
   | refine gw_region_end ?_
   | refine gw_label ?_
   | refine gw_ret ?_
   | (refine gw_region ?_; simp only [List.size_toArray, List.length_cons, List.length_nil, Nat.reduceAdd, Nat.zero_add, List.range, List.range.loop])
   | refine gw_exit rfl ?_
   | refine gw_yes rfl ?_
   | refine gw_no rfl ?_
   | (refine gw_op rfl rfl (by k_ne) (fun wq rq iq Kq hKq => ?_)
      go_simp
      refine hKq _ ?_ ?_
      · intro eq heq
        have hmq := mem_listed heq
        simp [go_sem, *] at hmq
      clear hKq Kq rq iq wq
      try w_num)
   | (refine gw_unwanted rfl rfl ?_; walk_nrm)
   | (refine gw_defer rfl rfl (by k_ne) rfl ?_; walk_nrm))
 refine gw_val (v := .bool false) rfl rfl (by k_ne) (fun w => by kernel_rfl) (fun w => by kernel_rfl) ?_
 repeat (first
   | refine gw_seq ?_
   | refine gw_skip ?_
   | refine gw_block ?_
   | refine gw_loop ?_
   | refine gw_inLoop ?_
   | refine gw_inBlock ?_
   | refine gw_region_end ?_
   | refine gw_label ?_
   | refine gw_ret ?_
   | (refine gw_region ?_; simp only [List.size_toArray, List.length_cons, List.length_nil, Nat.reduceAdd, Nat.zero_add, List.range, List.range.loop])
   | refine gw_exit rfl ?_
   | refine gw_yes rfl ?_
   | refine gw_no rfl ?_
   | (refine gw_op rfl rfl (by k_ne) (fun wq rq iq Kq hKq => ?_)
      go_simp
      refine hKq _ ?_ ?_
      · intro eq heq
        have hmq := mem_listed heq
        simp [go_sem, *] at hmq
      clear hKq Kq rq iq wq
      try w_num)
   | (refine gw_unwanted rfl rfl ?_; walk_nrm)
   | (refine gw_defer rfl rfl (by k_ne) rfl ?_; walk_nrm))
 refine gw_op rfl rfl (by k_ne) (fun wq rq iq Kq hKq => ?_)
 have hl := cell_rely rq (.inr (.inr rfl)) k8
 go_simp
 refine hKq _ ?_ ?_
 · intro eq heq
   have hmq := mem_listed heq
   simp [go_sem, *] at hmq
   subst hmq
   exact evOk_rd (.inr (.inr rfl))
 clear hKq Kq hl rq iq wq
 repeat (first
   | refine gw_seq ?_
   | refine gw_skip ?_
   | refine gw_block ?_
   | refine gw_loop ?_
   | refine gw_inLoop ?_
   | refine gw_inBlock ?_
   | refine gw_region_end ?_
   | refine gw_label ?_
   | refine gw_ret ?_
   | (refine gw_region ?_; simp only [List.size_toArray, List.length_cons, List.length_nil, Nat.reduceAdd, Nat.zero_add, List.range, List.range.loop])
   | refine gw_exit rfl ?_
   | refine gw_yes rfl ?_
   | refine gw_no rfl ?_
   | (refine gw_op rfl rfl (by k_ne) (fun wq rq iq Kq hKq => ?_)
      go_simp
      refine hKq _ ?_ ?_
      · intro eq heq
        have hmq := mem_listed heq
        simp [go_sem, *] at hmq
      clear hKq Kq rq iq wq
      try w_num)
   | (refine gw_unwanted rfl rfl ?_; walk_nrm)
   | (refine gw_defer rfl rfl (by k_ne) rfl ?_; walk_nrm))
 refine GoesW.stop fun W9 r9 _ => ?_
 subst hm
 have q6 : RelyS S M W W6 := r5.trans (r6.mono fun b q => q.imp (fun q => q) .inl)
 have q7 : RelyS S M W W7 := q6.trans (r7.mono fun b q => q.imp (fun q => q) fun q => .inl (.inl q))
 have q8 : RelyS S M W W8 := q7.trans (r8.mono fun b q => q.imp (fun q => q) fun q => .inl (.inl (.inl q)))
 have q9 : RelyS S M W W9 := q8.trans (r9.mono fun b q => q.imp (fun q => q) fun q => .inl (.inl (.inl (.inl q))))
 have y5 : W9.heap[b5]? = some (.cells #[.slice ao zs.length cap] 51 (0, 0)) := by
   rw [r9.keep b5 (by omega) (.inr (.inl (.inl (.inl (.inr rfl))))), r8.keep b5 (by omega) (.inr (.inl (.inl (.inr rfl)))), r7.keep b5 (by omega) (.inr (.inl (.inr rfl))), r6.keep b5 g5 (.inr (.inr rfl))]
   exact x5
 have y6 : W9.heap[b6]? = some (.cells #[.int .u64 s] 94 (0, 0)) := by
   rw [r9.keep b6 (by omega) (.inr (.inl (.inl (.inr rfl)))), r8.keep b6 (by omega) (.inr (.inl (.inr rfl))), r7.keep b6 g6 (.inr (.inr rfl))]
   exact x6
 have y7 : W9.heap[b7]? = some (.cells #[.int .i64 c] 3 (0, 0)) := by
   rw [r9.keep b7 (by omega) (.inr (.inl (.inr rfl))), r8.keep b7 g7 (.inr (.inr rfl))]
   exact x7
 have y8 : W9.heap[b8]? = some (.cells #[.slice al ls.length capl] 51 (0, 0)) := by
   rw [r9.keep b8 g8 (.inr (.inr rfl))]
   exact x8
 refine ⟨b5, b6, b7, b8, rfl, below_rely hB hsz q9 hS, ⟨init_rely hI q9 hS, rowB_rely hrw q9 mr, rowB_rely hrl q9 ml, ⟨by omega, _, y5⟩, ⟨by omega, _, y6⟩, ⟨by omega, _, y7⟩, by omega, _, y8⟩, fun b hb => ?_⟩
 rcases hb with hb | ⟨n, m⟩
 · exact (hS b hb).imp (fun q => q) fun q => .inl (.inl (.inl (.inl q)))
 simp only [taskL, List.mem_cons, Prod.mk.injEq, List.mem_append] at m
 rcases m with ⟨rfl, -⟩ | ⟨rfl, -⟩ | ⟨rfl, -⟩ | ⟨rfl, -⟩ | m | m
 · exact .inr (.inl (.inl (.inl (.inr rfl))))
 · exact .inr (.inl (.inl (.inr rfl)))
 · exact .inr (.inl (.inr rfl))
 · exact .inr (.inr rfl)
 · exact (mr _ _ m).imp (fun q => q) fun q => .inl (.inl (.inl (.inl q)))
 · exact (ml _ _ m).imp (fun q => q) fun q => .inl (.inl (.inl (.inl q)))
end
end Go.Proofs.YtajnfkmkombajabDoor
namespace Go.Proofs.YtajnfkmkombajabDoor
open Go Go.Conc Go.ConcN Go.RowKit Go.Conc.Lib Go.ConcR.Gen Go.ConcN.Gen
noncomputable def bodyB : Code := (Tryd.f98.body).getD .skip
noncomputable def rgB : Array Oper := match bodyB with | .seq _ (.seq (.region _ ops _) _) => ops | _ => #[]
noncomputable def restAb : Code := match bodyB with | .seq _ (.seq _ c) => c | _ => .skip
noncomputable def bodyS : Code := (Tryd.f12.body).getD .skip
noncomputable def rgS1 : Array Oper := match bodyS with | .seq _ (.seq (.region _ ops _) _) => ops | _ => #[]
noncomputable def restS1 : Code := match bodyS with | .seq _ (.seq _ c) => c | _ => .skip
section
variable {n0 : Nat} {A : Nat → Addr} {W0 : World} {aw av : Option Addr} {nw cw nv cv : Nat} {sd : Nat} {cy wk : Int}
noncomputable def frB (r1 r2 : Nat) : Frame := (base 98).at ⟨(List.toArray (.bool false :: undef :: undef :: undef :: .slice (some ⟨r1, 0, none⟩) 3 3 :: .slice (some ⟨r2, 0, none⟩) 1 1 :: undef :: undef :: undef :: undef :: undef :: undef :: undef :: undef :: undef :: undef :: undef :: undef :: undef :: undef :: undef :: undef :: undef :: [])), []⟩ [.inRegion rgB [2, 3, 4, 5, 6, 7], .code restAb]
noncomputable def frS1 (aw : Option Addr) (nw cw : Nat) (sd : Nat) (cy : Int) (av : Option Addr) (nv cv : Nat) (wk : Int) : Frame := (base 12).at ⟨(List.toArray (.slice aw nw cw :: .int .u64 sd :: .int .i64 cy :: .slice av nv cv :: .int .i64 wk :: undef :: undef :: undef :: undef :: undef :: .bool false :: undef :: undef :: undef :: undef :: undef :: undef :: undef :: undef :: undef :: undef :: undef :: undef :: undef :: undef :: undef :: undef :: undef :: undef :: undef :: undef :: undef :: undef :: undef :: undef :: undef :: undef :: undef :: undef :: undef :: undef :: undef :: undef :: undef :: undef :: undef :: undef :: undef :: undef :: undef :: undef :: undef :: undef :: undef :: undef :: undef :: undef :: undef :: undef :: undef :: undef :: undef :: undef :: undef :: undef :: undef :: undef :: undef :: undef :: undef :: undef :: undef :: undef :: undef :: undef :: undef :: undef :: undef :: undef :: undef :: undef :: undef :: undef :: undef :: undef :: undef :: undef :: undef :: undef :: undef :: undef :: undef :: undef :: undef :: undef :: undef :: undef :: undef :: undef :: undef :: undef :: undef :: undef :: undef :: undef :: undef :: undef :: undef :: undef :: undef :: undef :: undef :: undef :: undef :: undef :: undef :: undef :: undef :: undef :: undef :: undef :: undef :: undef :: undef :: undef :: undef :: undef :: undef :: undef :: undef :: undef :: undef :: undef :: undef :: undef :: undef :: undef :: [])), []⟩ [.inRegion rgS1 [0, 1], .code restS1]
def AtAll1 (n0 : Nat) (A : Nat → Addr) (W0 : World) (Cs : List Frame) (S : Nat → Prop) (g : Goroutine) (W : World) (M : Nat → Prop) : Prop :=
 ∃ r1 r2, AtAll n0 A W0 (some ⟨r1, 0, none⟩) 3 [0, 3, 0] 1 2 (some ⟨r2, 0, none⟩) 1 [9] 2 (frB r1 r2 :: Cs) S g W M
theorem row_new {n0 b : Nat} {W : World} {zs : List Int} {t : TypeId} (hn : n0 ≤ b) (hl : zs.length ≤ maxLen) (h : W.heap[b]? = some (.cells (zs.map (Value.int .i64)).toArray t (0, 0))) : RowB n0 W (some ⟨b, 0, none⟩) zs.length zs := by
 refine ⟨Nat.le_refl _, hl, fun e => (by cases e), fun a e => ?_⟩
 cases e
 refine ⟨rfl, rfl, hn, _, _, h, fun i hi => ?_⟩
 simp [List.getD_eq_getElem?_getD, List.getElem?_eq_getElem hi]
set_option maxRecDepth 100000 in
set_option maxHeartbeats 8000000 in
theorem abreast_front {S M : Nat → Prop} {W : World} {Cs : List Frame} (hI : Init n0 A W) (hB : Below n0 W0 W) (hS : ∀ b, b < n0 → S b ∨ M b) :
   GoesW Tryd.prog true (fun _ => True) S (AtAll1 n0 A W0 Cs S) (G (Frame.enter Tryd.prog 98 #[] .normal) Cs) W M := by
 rw [enter_at (fn := Tryd.f98) (c := bodyB) _ Tryd.func98 rfl]
 have hsz := hI.size
 simp only [bodyB, Tryd.f98, Option.getD_some]
 walk_nrm
 repeat (first
   | refine gw_seq ?_
   | refine gw_skip ?_
   | refine gw_block ?_
   | refine gw_loop ?_
   | refine gw_inLoop ?_
   | refine gw_inBlock ?_
   | refine gw_region_end ?_
   | refine gw_label ?_
   | refine gw_ret ?_
   | (refine gw_region ?_; simp only [List.size_toArray, List.length_cons, List.length_nil, Nat.reduceAdd, Nat.zero_add, List.range, List.range.loop])
   | refine gw_exit rfl ?_
   | refine gw_yes rfl ?_
   | refine gw_no rfl ?_)
 repeat (first
   | refine gw_seq ?_
   | refine gw_skip ?_
   | refine gw_block ?_
   | refine gw_loop ?_
   | refine gw_inLoop ?_
   | refine gw_inBlock ?_
   | refine gw_region_end ?_
   | refine gw_label ?_
   | refine gw_ret ?_
   | (refine gw_region ?_; simp only [List.size_toArray, List.length_cons, List.length_nil, Nat.reduceAdd, Nat.zero_add, List.range, List.range.loop])
   | refine gw_exit rfl ?_
   | refine gw_yes rfl ?_
   | refine gw_no rfl ?_
   | (refine gw_op rfl rfl (by k_ne) (fun wq rq iq Kq hKq => ?_)
      go_simp
      refine hKq _ ?_ ?_
      · intro eq heq
        have hmq := mem_listed heq
        simp [go_sem, *] at hmq
      clear hKq Kq rq iq wq
      try w_num)
   | (refine gw_unwanted rfl rfl ?_; walk_nrm)
   | (refine gw_defer rfl rfl (by k_ne) rfl ?_; walk_nrm))
 refine gw_push (v := fun B => .slice (some ⟨B, 0, none⟩) 3 3) (ob := .cells #[.int .i64 0, .int .i64 3, .int .i64 0] 3 (0, 0)) rfl rfl (by k_ne) (fun w _ _ => by go_simp) (fun w _ _ e he => by have hm := mem_listed he; simp [go_sem] at hm) (fun W1 r1 q1 l1 g1 x1 => ?_)
 walk_nrm
 refine gw_push (v := fun B => .slice (some ⟨B, 0, none⟩) 1 1) (ob := .cells #[.int .i64 9] 3 (0, 0)) rfl rfl (by k_ne) (fun w _ _ => by go_simp) (fun w _ _ e he => by have hm := mem_listed he; simp [go_sem] at hm) (fun W2 r2 q2 l2 g2 x2 => ?_)
 walk_nrm
 have z1 := q1.size
 have z2 := q2.size
 have q12 : RelyS S M W W2 := q1.trans (q2.mono fun b q => q.imp (fun q => q) .inl)
 have y1 : W2.heap[r1]? = some (.cells #[.int .i64 0, .int .i64 3, .int .i64 0] 3 (0, 0)) := by
   rw [q2.keep r1 g1 (.inr (.inr rfl))]; exact x1
 have hf := rights_front (S := S) (M := fun x => (M x ∨ x = r1) ∨ x = r2) (W := W2) (Cs := frB r1 r2 :: Cs) (W0 := W0) (zs := [0, 3, 0]) (ls := [9]) (ao := some ⟨r1, 0, none⟩) (al := some ⟨r2, 0, none⟩) (cap := 3) (capl := 1) (s := 1) (c := 2) (wk := 2) (init_rely hI q12 hS) (below_rely hB hsz q12 hS) (fun b q => (hS b q).imp (fun q => q) fun q => .inl (.inl q)) (by decide) (by decide) (by decide)
   (row_new (by omega) (by unfold maxLen; decide) y1) (row_new (by omega) (by unfold maxLen; decide) x2) (fun b n m => by
     have : (b, n) = (r1, 3) := List.mem_singleton.1 m
     cases this
     exact .inr (.inl (.inr rfl))) (fun b n m => by
     have : (b, n) = (r2, 1) := List.mem_singleton.1 m
     cases this
     exact .inr (.inr rfl))
 have hf' := hf.mono (Stop' := AtAll1 n0 A W0 Cs S) fun g W M h _ => ⟨r1, r2, h⟩
 clear hf
 refine gw_callE (x := #[.slice (some ⟨r1, 0, none⟩) 3 3, .int .u64 1, .int .i64 2, .slice (some ⟨r2, 0, none⟩) 1 1, .int .i64 2]) rfl rfl (by k_ne) rfl Tryd.func99 (by kernel_rfl) rfl (by walk_nrm) ?_
 exact hf'
set_option maxRecDepth 100000 in
set_option maxHeartbeats 8000000 in
theorem side_front {S M : Nat → Prop} {W : World} (hI : Init n0 A W) (hB : Below n0 W0 W) (hS : ∀ b, b < n0 → S b ∨ M b) :
   GoesW Tryd.prog true (fun _ => True) S (AtAll1 n0 A W0 [frS1 aw nw cw sd cy av nv cv wk] S) (G (Frame.enter Tryd.prog 12 #[.slice aw nw cw, .int .u64 sd, .int .i64 cy, .slice av nv cv, .int .i64 wk] .normal) []) W M := by
 rw [enter_at (fn := Tryd.f12) (c := bodyS) _ Tryd.func12 rfl]
 simp only [bodyS, Tryd.f12, Option.getD_some]
 walk_nrm
 repeat (first
   | refine gw_seq ?_
   | refine gw_skip ?_
   | refine gw_block ?_
   | refine gw_loop ?_
   | refine gw_inLoop ?_
   | refine gw_inBlock ?_
   | refine gw_region_end ?_
   | refine gw_label ?_
   | refine gw_ret ?_
   | (refine gw_region ?_; simp only [List.size_toArray, List.length_cons, List.length_nil, Nat.reduceAdd, Nat.zero_add, List.range, List.range.loop])
   | refine gw_exit rfl ?_
   | refine gw_yes rfl ?_
   | refine gw_no rfl ?_)
 repeat (first
   | refine gw_seq ?_
   | refine gw_skip ?_
   | refine gw_block ?_
   | refine gw_loop ?_
   | refine gw_inLoop ?_
   | refine gw_inBlock ?_
   | refine gw_region_end ?_
   | refine gw_label ?_
   | refine gw_ret ?_
   | (refine gw_region ?_; simp only [List.size_toArray, List.length_cons, List.length_nil, Nat.reduceAdd, Nat.zero_add, List.range, List.range.loop])
   | refine gw_exit rfl ?_
   | refine gw_yes rfl ?_
   | refine gw_no rfl ?_
   | (refine gw_op rfl rfl (by k_ne) (fun wq rq iq Kq hKq => ?_)
      go_simp
      refine hKq _ ?_ ?_
      · intro eq heq
        have hmq := mem_listed heq
        simp [go_sem, *] at hmq
      clear hKq Kq rq iq wq
      try w_num)
   | (refine gw_unwanted rfl rfl ?_; walk_nrm)
   | (refine gw_defer rfl rfl (by k_ne) rfl ?_; walk_nrm))
 have hf := abreast_front (S := S) (M := M) (W := W) (Cs := [frS1 aw nw cw sd cy av nv cv wk]) (W0 := W0) hI hB hS
 refine gw_callE (x := #[]) rfl rfl (by k_ne) rfl Tryd.func98 (by kernel_rfl) rfl (by walk_nrm) ?_
 exact hf
end
end Go.Proofs.YtajnfkmkombajabDoor
namespace Go.Proofs.YtajnfkmkombajabDoor
open Go Go.Conc Go.ConcN
section
variable {P : Program} {I : World → Prop} {good : FuncId → Bool} {Gl : Gs} {S : Nat → Prop} {Post PostE : Value → World → Prop} {W : World} {M : Nat → Prop} {b : Frame} {a : Act} {todo : List Item} {fn : Func}
theorem st_done {f : FuncId} {fd : Func} {t : Array Value} {v : Value} {td : List Item} {w w' : World} {es : Array Event} (hf : P.funcs[f]? = some fd) (h : (results fd t).runT P w #[] = (.ok v w', es)) (hi : P.inits.idxOf? f = none) : stepG P true (G (mkF f t td .returning) []) w = .ended (.done v) w' (seen P f es) := by
 simp only [mkF, G, stepG, unwind, hf, h, doReturn, GStep.after, Array.append_empty, hi]
 rfl
theorem gw_done {t : Tmp} {f : FuncId} {T : Array Value} (hf : P.funcs[f]? = some fn) (hr : fn.results = #[.tmp t]) (hi : P.inits.idxOf? f = none) (h : ∀ W1, RelyS S M W W1 → I W1 → PostE (T.getD t undef) W1) :
   GoesW P true I S (AtEnd' P S PostE) (G { (base f).at ⟨T, []⟩ todo with mode := .returning } []) W M := by
 refine .stop fun W1 r i => ⟨rfl, _, _, st_done (f := f) (t := T) (td := todo) (v := T.getD t undef) (w' := W1) (es := #[]) hf ?_ hi, fun e he => ?_, h W1 r i⟩
 · simp [results, hr, Array.mapM_eq_mapM_toList, Sem.runT]
 · have := seen_sub P f #[] e he
   simp at this
theorem gw_lone_end {F : Foot} {eq : Bool} {fr0 Fr0 : Frame} (hP : GoodP P good Gl) (hQ : Gl.eq = true → eq = true) (hG : ∀ g, Gl.gl g = true → F.has g) (hF : FootOk P (okFn good) F eq W)
   (hS : ∀ b, F.has b → S b ∨ M b) (hM : ∀ b, M b → b < W.heap.size) (hfr : FrA P good Gl F.rho fr0 Fr0) (hini : ∀ f fd, P.funcs[f]? = some fd → P.inits.idxOf? f ≠ none → fd.results = #[]) (hne : ∀ v w, Post v w → v ≠ .tuple #[])
   (hC : ∀ τ, CallsFrom P fr0 { loneW (okFn good) F W with tape := τ } (fun e w' => ∃ v, e = .returned v ∧ Post v w'))
   (hk : ∀ V v w ρ W1 N, VR (okFn good) ρ v V → HR P (okFn good) (F.olds eq) F.sh ρ N w W1 → Ext P F.rho ρ → Post v w → (∀ b, N b → W.heap.size ≤ b ∧ b < W1.heap.size) → RelyS S M W W1 → I W1 → PostE V W1) :
   GoesW P true I S (AtEnd' P S PostE) (G Fr0 []) W M := by
 have hlt : ∀ b, F.sh b → b < W.heap.size := fun b q => by
   obtain ⟨c, t, f, h1, -⟩ := hF.old b q
   exact (Array.getElem?_eq_some_iff.1 h1).1
 have hl := lift_from (mn := true) (I := I) (Base := []) hP (Zo := F.olds eq) (fun q => hQ q) (fun g q => ⟨rfl, hG g q⟩) hfr (foot_hr hF) hC
 refine (gw_aside' (S := S) (M := M) (fun b q => ⟨hS b q, hlt b q⟩) hM hl).mono fun g W1 M' ⟨N, ⟨Fr, fr, w, ρ, v, e, hm, hf, hr, he, hlv, hp⟩, h2, hN, hkp⟩ hI => ?_
 subst e
 obtain rfl : M' = fun b => M b ∨ N b := funext fun b => propext (h2 b)
 cases hf with
 | @mk fn t T td md hfn ht hi hmd =>
   obtain rfl : md = .returning := hm
   obtain ⟨-, -, -, fd, g1, g2⟩ := hlv
   have h1 : ((results fd t).runT P w #[]).1 = .ok v w := by rw [Sem.runT_fst]; exact g2
   have hno : P.inits.idxOf? fn = none := by
     refine Classical.byContradiction fun q => hne v w hp ?_
     have hres := hini fn fd g1 q
     have : (results fd t).run P w = .ok (.tuple #[]) w := by simp [results, hres, Sem.run]
     have g2' : (results fd t).run P w = .ok v w := g2
     rw [g2'] at this
     cases this
     rfl
   have ht' : ∀ j, W1.drawn + j < (Go.Result.world ((results fd T).runT P W1 #[]).1).drawn → w.tape (w.drawn + j) = W1.tape (W1.drawn + j) := fun j hj => by
     rw [(nt_results fd T).world] at hj; omega
   rcases (sr_results (P := P) (ok := okFn good) fd ht).sim #[] #[] hr ht' with ⟨x, w', hx, h⟩ | ⟨a, V, w', W', ρ', M', es', new, k1, k2, k3, k4, k5, k6, k7, k8, k9, k10⟩
   · rw [h1] at h; cases h
   · have hw : W' = W1 := by
       have := (nt_results (P := P) fd T).world W1 #[]
       rw [k2] at this; exact this
     subst hw
     rw [k1] at h1
     cases h1
     have hM' : M' = N := funext fun B => propext ⟨fun q => ((k6.mine B).1 q).elim id fun ⟨a, b⟩ => by omega, fun q => (k6.mine B).2 (.inl q)⟩
     subst hM'
     have k2' : (results fd T).runT P W' #[] = (.ok V W', new) := by rw [k2]; simp
     exact ⟨rfl, V, _, st_done g1 k2' hno, fun e he => (k10 e (seen_sub P fn new e he)).widen (fun B q => q.elim (fun q => (hS B q).imp id .inl) fun q => .inr (.inr q)) fun B q => .inr q, hk V _ _ ρ' W' M' k3 k5 (he.trans k4) hp hN hkp hI⟩
end
end Go.Proofs.YtajnfkmkombajabDoor
namespace Go.Proofs.YtajnfkmkombajabDoor
open Go Go.Conc
def goE : List Nat := [44, 45, 47, 52, 61, 65, 122, 100, 131, 132, 153]
def goodE (f : FuncId) : Bool := goE.contains f
def GlE : Gs := ⟨fun _ => false, false⟩
noncomputable def goodEB (f : Nat) : Bool := match Tryd.prog.funcs[f]? with
 | some fn => !(fn.name == "runtime.NumGoroutine") && (match fn.body with | some b => okCode Tryd.prog goodE GlE b | none => false)
 | none => false
set_option maxRecDepth 100000 in
theorem goE_all : goE.all goodEB = true := by kernel_rfl
set_option maxRecDepth 100000 in
theorem goodPE : GoodP Tryd.prog goodE GlE where
 fns := fun f hf => by
   left
   have := List.all_eq_true.1 goE_all f (List.contains_iff_mem.1 hf)
   unfold goodEB at this
   cases hfn : Tryd.prog.funcs[f]? with
   | none => rw [hfn] at this; cases this
   | some fn =>
     rw [hfn] at this
     simp only [Bool.and_eq_true, Bool.not_eq_true'] at this
     cases hb : fn.body with
     | none => rw [hb] at this; cases this.2
     | some b => rw [hb] at this; exact ⟨fn, b, rfl, this.1, hb, this.2⟩
 zero := zero_ok zeros_all _
 size := size_ok zeros_all
end Go.Proofs.YtajnfkmkombajabDoor
namespace Go.Proofs.YtajnfkmkombajabDoor
open Go.RowKit
theorem list_ext_getD {α : Type} (d : α) {a b : List α} (hl : a.length = b.length) (h : ∀ k, k < a.length → a.getD k d = b.getD k d) : a = b := by
 apply List.ext_getElem hl
 intro i h1 h2
 have := h i h1
 simpa [List.getD_eq_getElem?_getD, h1, h2] using this
theorem VS.final_start (w : List Int) : (VS.start w).final w.sum = (List.range w.length).map fun k : Nat => (w.sum, (k : Int)) := by
 apply list_ext_getD (0, 0)
 · simp [VS.final, ownCols_length, VS.start]
 · intro k hk
   have hk' : k < w.length := by simpa [VS.final, ownCols_length, VS.start] using hk
   have hm := (mem_start w k).2 hk'
   unfold VS.final
   rw [ownCols_getD _ _ _ _ (by simpa [VS.start] using hk'), if_pos hm]
   simp [List.getD_eq_getElem?_getD, hk']
theorem VS.final_length {w : List Int} {v : VS} (I : v.Inv w) : (v.final w.sum).length = w.length := by
 unfold VS.final; rw [ownCols_length, I.cl]
theorem VS.final_step {w : List Int} {v : VS} (I : v.Inv w) {s g : Nat} {sm gr : List Nat} (hs : v.small = s :: sm) (hg : v.great = g :: gr) : (v.step w.sum).final w.sum = (v.final w.sum).set s (v.rest.getD s 0, (g : Int)) := by
 have I' := I.step
 have hnd := I.nodup
 rw [hs, hg] at hnd
 have hsn : s < w.length := I.lt s (by rw [hs]; simp)
 have hs1 : s ∉ sm ++ g :: gr := by simpa using (List.nodup_cons.1 hnd).1
 have hcols : (v.step w.sum).cols = v.cols.set s (v.rest.getD s 0, (g : Int)) := by
   unfold VS.step; rw [hs, hg]; simp only; split <;> rfl
 have hmem : ∀ k, k ∈ (v.step w.sum).small ++ (v.step w.sum).great ↔ k ∈ sm ++ g :: gr := by
   intro k; unfold VS.step; rw [hs, hg]; simp only; split
   · simp only [List.mem_append, List.mem_cons, List.mem_nil_iff, or_false]
     constructor
     · rintro ((h | h) | h)
       · exact .inl h
       · exact .inr (.inl h)
       · exact .inr (.inr h)
     · rintro (h | h | h)
       · exact .inl (.inl h)
       · exact .inl (.inr h)
       · exact .inr h
   · exact Iff.rfl
 apply list_ext_getD (0, 0)
 · rw [VS.final_length I', List.length_set, VS.final_length I]
 · intro k hk
   rw [VS.final_length I'] at hk
   unfold VS.final
   rw [ownCols_getD _ _ _ _ (by rw [I'.cl]; exact hk), hcols]
   by_cases hks : s = k
   · subst hks
     rw [if_neg (fun h => hs1 ((hmem s).1 h)), getD_set_same _ _ _ _ (by rw [I.cl]; exact hk), getD_set_same _ _ _ _ (by rw [ownCols_length, I.cl]; exact hk)]
   · rw [getD_set_other _ _ _ _ _ hks, getD_set_other _ _ _ _ _ hks, ownCols_getD _ _ _ _ (by rw [I.cl]; exact hk)]
     have e : (k ∈ (v.step w.sum).small ++ (v.step w.sum).great) ↔ (k ∈ v.small ++ v.great) := by
       rw [hmem, hs, hg]; simp only [List.cons_append, List.mem_cons]; exact ⟨fun h => .inr h, fun h => h.resolve_left (fun e => hks e.symm)⟩
     by_cases hk2 : k ∈ v.small ++ v.great
     · rw [if_pos (e.2 hk2), if_pos hk2]
     · rw [if_neg (fun h => hk2 (e.1 h)), if_neg hk2]
end Go.Proofs.YtajnfkmkombajabDoor
