/-
  SideRights behind the loop over the levels: its end at a fault; without a fault, to the last loop.
  The last loop of SideRights, alone.
  One turn of SideRights' loop over the levels, all well.
-/
import Derived.Test.YtajnfkmkombajabDoorQSD33
import Derived.Test.YtajnfkmkombajabDoorQSD34
import Derived.Test.YtajnfkmkombajabDoorQSD31
import Derived.Test.YtajnfkmkombajabDoorQSD28
import Derived.Deep.LoopGhost
set_option linter.unusedVariables false
set_option linter.unusedSimpArgs false
namespace Go.Proofs.YtajnfkmkombajabDoor
open Go Go.Conc Go.ConcN Go.RowKit Go.Conc.Lib Go.ConcR.Gen Go.ConcN.Gen
noncomputable def cS12 : Code := match restS12 with | .seq c _ => c | _ => .skip
noncomputable def cS14 : Code := match restS12 with | .seq _ (.seq c _) => c | _ => .skip
noncomputable def restS16 : Code := match restS12 with | .seq _ (.seq _ c) => c | _ => .skip
theorem restS12_eq : restS12 = .seq cS12 (.seq cS14 restS16) := rfl
section
variable {n0 : Nat} {A : Nat → Addr} {W0 : World} {aw av : Option Addr} {cw cv : Nat} {sd : Nat} {cy wk : Int} {zs ls : List Int} {X0 X1 : Value} {Bf : Nat}
theorem gw_faulted {S M : Nat → Prop} {W : World} {Stop : Goroutine → World → (Nat → Prop) → Prop} {C : Frame} {Cs : List Frame} {f : Nat × Int} (hI : Init n0 A W) (hS : ∀ b, b < n0 → S b ∨ M b) (hM : ∀ b, M b → b < W.heap.size) (hf : f.1 ≤ 10) (h0 : f.2 ≠ -1 → f.1 ≠ 0) (he : ErrM A (fun b => M b ∧ n0 ≤ b) W X1 f)
   (hk : ∀ (W1 : World) (N : Nat → Prop), (∀ b, N b → W.heap.size ≤ b ∧ b < W1.heap.size) → RelyS S M W W1 → GoesW Tryd.prog true (fun _ => True) S Stop (G (C.finish (.bool true)) Cs) W1 (fun b => M b ∨ N b)) :
   GoesW Tryd.prog true (fun _ => True) S Stop (G (Frame.enter Tryd.prog 101 #[X1, .agg #[.int .i64 (f.1 : Int), .int .i64 f.2]] .normal) (C :: Cs)) W M := by
 have main : ∀ L : List (Nat × Nat), (∀ b h, (b, h) ∈ L → n0 ≤ b ∧ ∃ c t, W.heap[b]? = some (.cells c t (0, 0)) ∧ ∀ (i : Nat) (v : Value), i < h → c[i]? = some v → (footL A L).val (okFn goodS) v) → (∀ b h, (b, h) ∈ L → M b) → (footL A L).val (okFn goodS) X1 →
     (∀ τ, ErrIs A { W with heap := #[] } { loneW (okFn goodS) (footL A L) W with tape := τ } X1 f) → GoesW Tryd.prog true (fun _ => True) S Stop (G (Frame.enter Tryd.prog 101 #[X1, .agg #[.int .i64 (f.1 : Int), .int .i64 f.2]] .normal) (C :: Cs)) W M := by
   intro L hl hm hv herr
   have hsub : ∀ b, (footL A L).has b → S b ∨ M b := fun b hb => by
     rcases has_sub hI hb with q | ⟨n, m⟩
     · exact hS b q
     · exact .inr (hm b n m)
   refine gw_lone (F := footL A L) (eq := true) (Post := fun v _ => v = .bool true) goodP (fun _ => rfl) gl_has (foot_ok hI hl) hsub hM
     (fr_enter goodP (by kernel_rfl) ⟨_, _, Tryd.func101, rfl⟩ fun v hv' => ?_) (fun τ => callsFrom_of (Calls.mono (law3_faulted A X1 f { W with heap := #[] } { loneW (okFn goodS) (footL A L) W with tape := τ } ?_ (herr τ) hf h0) ?_)) ?_
   · simp only [List.mem_toArray, List.mem_cons, List.not_mem_nil, or_false] at hv'
     rcases hv' with rfl | rfl
     · exact hv
     · have hx := (VRs.one (val_int (ok := okFn goodS) (F := footL A L) .i64 (f.1 : Int))).push (val_int (ok := okFn goodS) (F := footL A L) .i64 f.2)
       exact .agg hx.1 hx.2
   · exact ⟨⟨(foot_sents (ok := okFn goodS) (l := L) hI).errs.cell⟩, (foot_sents (ok := okFn goodS) (l := L) hI).typ, (foot_sents (ok := okFn goodS) (l := L) hI).blk, hI.sen.ne⟩
   · rintro e w' ⟨rfl, -⟩
     exact ⟨_, rfl, rfl⟩
   · intro V v w ρ W1 N hv hr he hp hN q _
     subst hp
     cases hv
     exact hk W1 N hN q
 rcases he with ⟨h1, rfl⟩ | ⟨h1, g, ⟨mg, ng⟩, rfl, cc, tt, hgW, c0, c1⟩
 · exact main [] (fun b h m => by cases m) (fun b h m => by cases m) (val_ev hI hf) fun τ => .inl ⟨h1, rfl⟩
 · have m1 : (g, 2) ∈ [(g, 2)] := List.mem_singleton.2 rfl
   have hl : ∀ b h, (b, h) ∈ [(g, 2)] → n0 ≤ b ∧ ∃ c t, W.heap[b]? = some (.cells c t (0, 0)) ∧ ∀ (i : Nat) (v : Value), i < h → c[i]? = some v → (footL A [(g, 2)]).val (okFn goodS) v := fun b h m => by
     have : (b, h) = (g, 2) := List.mem_singleton.1 m
     cases this
     refine ⟨ng, cc, tt, hgW, fun i v hi hv => ?_⟩
     rcases Nat.lt_or_ge i 1 with q | q
     · obtain rfl : i = 0 := by omega
       rw [c0] at hv; cases hv; exact val_int _ _
     · obtain rfl : i = 1 := by omega
       rw [c1] at hv; cases hv; exact val_ev hI hf
   refine main [(g, 2)] hl (fun b h m => ?_) (val_iface _ (val_ptr (has_new hI m1 ng))) fun τ => .inr ⟨h1, g, Nat.zero_le _, rfl, foot_new hI m1 ng (by decide) (by rw [at_cell hgW]; exact c0), foot_new hI m1 ng (by decide) (by rw [at_cell hgW]; exact c1)⟩
   have : (b, h) = (g, 2) := List.mem_singleton.1 m
   cases this
   exact mg
set_option maxRecDepth 100000 in
set_option maxHeartbeats 8000000 in
theorem fault_end {S M : Nat → Prop} {W : World} {T : Array Value} {i : Nat} {f : Nat × Int} (hK : (Kn aw cw zs sd cy av cv ls (.slice none 0 0) X1 Bf i T)) (hI : Init n0 A W) (hB : Below n0 W0 W) (hS : ∀ b, b < n0 → S b ∨ M b) (hM : ∀ b, M b → b < W.heap.size) (mf : M Bf) (hf : W.heap[Bf]? = some (.cells #[.int .i64 (f.1 : Int), .int .i64 f.2] 72 (0, 0)))
   (hf10 : f.1 ≤ 10) (h0 : f.1 ≠ 0) (he : ErrM A (fun b => M b ∧ n0 ≤ b) W X1 f) :
   GoesW Tryd.prog true (fun _ => True) S (AtEnd' Tryd.prog S fun v w => v = .bool true ∧ Below n0 W0 w) (G ((base 12).at ⟨T, []⟩ [.code restS12]) []) W M := by
 obtain ⟨hT, hs⟩ := hK
 obtain ⟨v, rfl⟩ := arr137 T hT
 clear hT
 simp only [List.getElem?_toArray, List.getElem?_cons_zero, List.getElem?_cons_succ, Option.some.injEq] at hs
 obtain ⟨e0, e1, e2, e3, e10, e12, e13, e14, e15⟩ := hs
 simp only [e0, e1, e2, e3, e10, e12, e13, e14, e15]
 clear e0 e1 e2 e3 e10 e12 e13 e14 e15
 have hfa := fun C Cs => gw_faulted (X1 := X1) (S := S) (C := C) (Cs := Cs) (Stop := (AtEnd' Tryd.prog S fun v w => v = .bool true ∧ Below n0 W0 w)) hI hS hM hf10 (fun _ => h0) he
 rw [restS12_eq]
 generalize restS16 = rr
 simp only [cS12, cS14, restS12, restS5, restS1, bodyS, Tryd.f12, Option.getD_some]
 have k0 : W.cell? ⟨Bf, 0, none⟩ = some (.int .i64 (f.1 : Int)) := by rw [at_cell hf]; rfl
 have k1 : W.cell? ⟨Bf, 1, none⟩ = some (.int .i64 f.2) := by rw [at_cell hf]; rfl
 have hsz := hI.size
 clear hI he hM hf
 generalize f.2 = f2 at *
 generalize hfz : (f.1 : Int) = fz at *
 have hgt : decide ((0 : Int) < fz) = true := by subst hfz; simp; omega
 repeat (first
   | refine gw_seq ?_
   | refine gw_skip ?_
   | refine gw_block ?_
   | refine gw_loop ?_
   | refine gw_inLoop ?_
   | refine gw_inBlock ?_
   | refine gw_region_end ?_
   | refine gw_label ?_
   | refine gw_ret ?_
   | (refine gw_region ?_; simp only [List.size_toArray, List.length_cons, List.length_nil, Nat.reduceAdd, Nat.zero_add, List.range, List.range.loop])
   | refine gw_exit rfl ?_
   | refine gw_yes rfl ?_
   | refine gw_no rfl ?_
   | (refine gw_op rfl rfl (by k_ne) (fun wq rq iq Kq hKq => ?_)
      go_simp
      refine hKq _ ?_ ?_
      · intro eq heq
        have hmq := mem_listed heq
        simp [go_sem, *] at hmq
      clear hKq Kq rq iq wq
      try w_num)
   | (refine gw_unwanted rfl rfl ?_; walk_nrm)
   | (refine gw_defer rfl rfl (by k_ne) rfl ?_; walk_nrm))
 refine gw_op rfl rfl (by k_ne) (fun wq rq iq Kq hKq => ?_)
 have hl := cell_rely rq (.inr mf) k0
 go_simp
 refine hKq _ ?_ ?_
 · intro eq heq
   have hmq := mem_listed heq
   simp [go_sem, *] at hmq
   subst hmq
   exact evOk_rd (.inr mf)
 clear hKq Kq hl rq iq wq
 repeat (first
   | refine gw_seq ?_
   | refine gw_skip ?_
   | refine gw_block ?_
   | refine gw_loop ?_
   | refine gw_inLoop ?_
   | refine gw_inBlock ?_
   | refine gw_region_end ?_
   | refine gw_label ?_
   | refine gw_ret ?_
   | (refine gw_region ?_; simp only [List.size_toArray, List.length_cons, List.length_nil, Nat.reduceAdd, Nat.zero_add, List.range, List.range.loop])
   | refine gw_exit rfl ?_
   | refine gw_yes rfl ?_
   | refine gw_no rfl ?_
   | (refine gw_op rfl rfl (by k_ne) (fun wq rq iq Kq hKq => ?_)
      go_simp
      refine hKq _ ?_ ?_
      · intro eq heq
        have hmq := mem_listed heq
        simp [go_sem, *] at hmq
      clear hKq Kq rq iq wq
      try w_num)
   | (refine gw_unwanted rfl rfl ?_; walk_nrm)
   | (refine gw_defer rfl rfl (by k_ne) rfl ?_; walk_nrm))
 refine gw_op rfl rfl (by k_ne) (fun wq rq iq Kq hKq => ?_)
 have hl0 := cell_rely rq (.inr mf) k0
 have hl1 := cell_rely rq (.inr mf) k1
 go_simp
 refine hKq _ ?_ ?_
 · intro eq heq
   have hmq := mem_listed heq
   simp [go_sem, *] at hmq
   rcases hmq with rfl | rfl <;> exact evOk_rd (.inr mf)
 clear hKq Kq hl0 hl1 rq iq wq
 refine gw_callE (x := #[X1, .agg #[.int .i64 fz, .int .i64 f2]]) rfl rfl (by k_ne) rfl Tryd.func101 (by kernel_rfl) rfl (by walk_nrm) ?_
 refine hfa _ _ fun W1 N hN q => ?_
 rw [Frame.finish_at]
 have hB1 := below_rely hB hsz q hS
 clear hfa
 walk_nrm
 repeat (first
   | refine gw_seq ?_
   | refine gw_skip ?_
   | refine gw_block ?_
   | refine gw_loop ?_
   | refine gw_inLoop ?_
   | refine gw_inBlock ?_
   | refine gw_region_end ?_
   | refine gw_label ?_
   | refine gw_ret ?_
   | (refine gw_region ?_; simp only [List.size_toArray, List.length_cons, List.length_nil, Nat.reduceAdd, Nat.zero_add, List.range, List.range.loop])
   | refine gw_exit rfl ?_
   | refine gw_yes rfl ?_
   | refine gw_no rfl ?_
   | (refine gw_op rfl rfl (by k_ne) (fun wq rq iq Kq hKq => ?_)
      go_simp
      refine hKq _ ?_ ?_
      · intro eq heq
        have hmq := mem_listed heq
        simp [go_sem, *] at hmq
      clear hKq Kq rq iq wq
      try w_num)
   | (refine gw_unwanted rfl rfl ?_; walk_nrm)
   | (refine gw_defer rfl rfl (by k_ne) rfl ?_; walk_nrm))
 exact gw_done Tryd.func12 rfl (by kernel_rfl) fun W2 r _ => ⟨rfl, below_rely hB1 (Nat.le_trans hsz q.size) r fun b p => (hS b p).imp (fun p => p) .inl⟩
set_option maxRecDepth 100000 in
set_option maxHeartbeats 8000000 in
theorem good_end {S M : Nat → Prop} {W : World} {Stop : Goroutine → World → (Nat → Prop) → Prop} {T : Array Value} {i Bo : Nat} (hK : (Kn aw cw zs sd cy av cv ls (.slice (some ⟨Bo, 0, none⟩) ls.length ls.length) .nilIface Bf i T)) (mf : M Bf) (hf : W.heap[Bf]? = some (.cells #[.int .i64 0, .int .i64 (-1)] 72 (0, 0)))
   (hk : ∀ T1 : Array Value, (Kn aw cw zs sd cy av cv ls (.slice (some ⟨Bo, 0, none⟩) ls.length ls.length) .nilIface Bf i T1) → GoesW Tryd.prog true (fun _ => True) S Stop (G ((base 12).at ⟨T1, []⟩ [.code restS16]) []) W M) :
   GoesW Tryd.prog true (fun _ => True) S Stop (G ((base 12).at ⟨T, []⟩ [.code restS12]) []) W M := by
 obtain ⟨hT, hs⟩ := hK
 obtain ⟨v, rfl⟩ := arr137 T hT
 clear hT
 simp only [List.getElem?_toArray, List.getElem?_cons_zero, List.getElem?_cons_succ, Option.some.injEq] at hs
 obtain ⟨e0, e1, e2, e3, e10, e12, e13, e14, e15⟩ := hs
 simp only [e0, e1, e2, e3, e10, e12, e13, e14, e15]
 clear e0 e1 e2 e3 e10 e12 e13 e14 e15
 rw [restS12_eq]
 revert hk
 generalize restS16 = rr
 intro hk
 simp only [cS12, cS14, restS12, restS5, restS1, bodyS, Tryd.f12, Option.getD_some]
 have k0 : W.cell? ⟨Bf, 0, none⟩ = some (.int .i64 0) := by rw [at_cell hf]; rfl
 generalize hm : ls.length = n at *
 repeat (first
   | refine gw_seq ?_
   | refine gw_skip ?_
   | refine gw_block ?_
   | refine gw_loop ?_
   | refine gw_inLoop ?_
   | refine gw_inBlock ?_
   | refine gw_region_end ?_
   | refine gw_label ?_
   | refine gw_ret ?_
   | (refine gw_region ?_; simp only [List.size_toArray, List.length_cons, List.length_nil, Nat.reduceAdd, Nat.zero_add, List.range, List.range.loop])
   | refine gw_exit rfl ?_
   | refine gw_yes rfl ?_
   | refine gw_no rfl ?_
   | (refine gw_op rfl rfl (by k_ne) (fun wq rq iq Kq hKq => ?_)
      go_simp
      refine hKq _ ?_ ?_
      · intro eq heq
        have hmq := mem_listed heq
        simp [go_sem, *] at hmq
      clear hKq Kq rq iq wq
      try w_num)
   | (refine gw_unwanted rfl rfl ?_; walk_nrm)
   | (refine gw_defer rfl rfl (by k_ne) rfl ?_; walk_nrm))
 refine gw_op rfl rfl (by k_ne) (fun wq rq iq Kq hKq => ?_)
 have hl := cell_rely rq (.inr mf) k0
 go_simp
 refine hKq _ ?_ ?_
 · intro eq heq
   have hmq := mem_listed heq
   simp [go_sem, *] at hmq
   subst hmq
   exact evOk_rd (.inr mf)
 clear hKq Kq hl rq iq wq
 repeat (first
   | refine gw_seq ?_
   | refine gw_skip ?_
   | refine gw_block ?_
   | refine gw_loop ?_
   | refine gw_inLoop ?_
   | refine gw_inBlock ?_
   | refine gw_region_end ?_
   | refine gw_label ?_
   | refine gw_ret ?_
   | (refine gw_region ?_; simp only [List.size_toArray, List.length_cons, List.length_nil, Nat.reduceAdd, Nat.zero_add, List.range, List.range.loop])
   | refine gw_exit rfl ?_
   | refine gw_yes rfl ?_
   | refine gw_no rfl ?_
   | (refine gw_op rfl rfl (by k_ne) (fun wq rq iq Kq hKq => ?_)
      go_simp
      refine hKq _ ?_ ?_
      · intro eq heq
        have hmq := mem_listed heq
        simp [go_sem, *] at hmq
      clear hKq Kq rq iq wq
      try w_num)
   | (refine gw_unwanted rfl rfl ?_; walk_nrm)
   | (refine gw_defer rfl rfl (by k_ne) rfl ?_; walk_nrm))
 refine gw_val (v := .bool false) rfl rfl (by k_ne) (fun w => by kernel_rfl) (fun w => by kernel_rfl) ?_
 repeat (first
   | refine gw_seq ?_
   | refine gw_skip ?_
   | refine gw_block ?_
   | refine gw_loop ?_
   | refine gw_inLoop ?_
   | refine gw_inBlock ?_
   | refine gw_region_end ?_
   | refine gw_label ?_
   | refine gw_ret ?_
   | (refine gw_region ?_; simp only [List.size_toArray, List.length_cons, List.length_nil, Nat.reduceAdd, Nat.zero_add, List.range, List.range.loop])
   | refine gw_exit rfl ?_
   | refine gw_yes rfl ?_
   | refine gw_no rfl ?_
   | (refine gw_op rfl rfl (by k_ne) (fun wq rq iq Kq hKq => ?_)
      go_simp
      refine hKq _ ?_ ?_
      · intro eq heq
        have hmq := mem_listed heq
        simp [go_sem, *] at hmq
      clear hKq Kq rq iq wq
      try w_num)
   | (refine gw_unwanted rfl rfl ?_; walk_nrm)
   | (refine gw_defer rfl rfl (by k_ne) rfl ?_; walk_nrm))
 subst hm
 refine hk _ ?_
 exact ⟨rfl, rfl, rfl, rfl, rfl, rfl, rfl, rfl, rfl, rfl⟩
end
end Go.Proofs.YtajnfkmkombajabDoor
namespace Go.Proofs.YtajnfkmkombajabDoor
open Go Go.RowKit
set_option maxRecDepth 100000 in
set_option maxHeartbeats 8000000 in
theorem side_rest {aw av : Option Addr} {cw cv : Nat} {sd : Nat} {cy : Int} {zs ls : List Int} (Bo : Nat) (w : World) (hsd : sd < 18446744073709551616) (hn : ls.length < 1000000) (R : RdI .i64 w aw zs.length cw zs) (L : RdI .i64 w av ls.length cv ls) (hz : ∀ i, i < ls.length → (bakerF zs cy (ls.getD i 0) 0).1 = 0)
   (hO : ∀ i, i < ls.length → ∃ rb cp, w.cell? ⟨Bo, i, none⟩ = some (.slice (some ⟨rb, 0, none⟩) 8 cp) ∧ ∀ j : Nat, j < 8 → w.cell? ⟨rb, j, none⟩ = some (.int .i64 (bakerV zs sd cy (ls.getD i 0) j))) (u : Nat → Value) :
   restS16.wp Tryd.prog (bodyPost Tryd.prog Tryd.f12 fun e w' => ∃ v, e = .returned v ∧ v = .bool true) ⟨(List.toArray (.slice aw zs.length cw :: .int .u64 sd :: .int .i64 cy :: .slice av ls.length cv :: u 4 :: u 5 :: u 6 :: u 7 :: u 8 :: u 9 :: .bool false :: u 11 :: .slice (some ⟨Bo, 0, none⟩) ls.length ls.length :: u 13 :: u 14 :: u 15 :: u 16 :: u 17 :: u 18 :: u 19 :: u 20 :: u 21 :: u 22 :: u 23 :: u 24 :: u 25 :: u 26 :: u 27 :: u 28 :: u 29 :: u 30 :: u 31 :: u 32 :: u 33 :: u 34 :: u 35 :: u 36 :: u 37 :: u 38 :: u 39 :: u 40 :: u 41 :: u 42 :: u 43 :: u 44 :: u 45 :: u 46 :: u 47 :: u 48 :: u 49 :: u 50 :: u 51 :: u 52 :: u 53 :: u 54 :: u 55 :: u 56 :: u 57 :: u 58 :: u 59 :: u 60 :: u 61 :: u 62 :: u 63 :: u 64 :: u 65 :: u 66 :: u 67 :: u 68 :: u 69 :: u 70 :: u 71 :: u 72 :: u 73 :: u 74 :: u 75 :: u 76 :: u 77 :: u 78 :: u 79 :: u 80 :: u 81 :: u 82 :: u 83 :: u 84 :: u 85 :: u 86 :: u 87 :: u 88 :: u 89 :: u 90 :: u 91 :: u 92 :: u 93 :: u 94 :: u 95 :: u 96 :: u 97 :: u 98 :: u 99 :: u 100 :: u 101 :: u 102 :: u 103 :: u 104 :: u 105 :: u 106 :: u 107 :: u 108 :: u 109 :: u 110 :: u 111 :: u 112 :: u 113 :: u 114 :: u 115 :: u 116 :: u 117 :: u 118 :: u 119 :: u 120 :: u 121 :: u 122 :: u 123 :: u 124 :: u 125 :: u 126 :: u 127 :: u 128 :: u 129 :: u 130 :: u 131 :: u 132 :: u 133 :: u 134 :: u 135 :: u 136 :: [])), []⟩ w := by
 have HR := Lib.hid R; clear R
 have HL := Lib.hid L; clear L
 have HO := Lib.hid hO; clear hO
 have HZ := Lib.hid hz; clear hz
 have HBo := Lib.hid (fun (l : Int) (h0 : (bakerF zs cy l 0).1 = 0) (k : Nat) (hk : k < 8) (wx : World) (hx : RdI .i64 wx aw zs.length cw zs) => ((ref_BakerOf aw cw zs sd hsd cy l k wx hx).mono (fun e w' ⟨he, h2⟩ => ⟨by rw [he, bakerF_round zs cy l k hk, if_pos h0, h0, (bakerF_zero h0).1]; rfl, h2⟩) :
   Calls Tryd.prog 65 #[.slice aw zs.length cw, .int .u64 sd, .int .i64 cy, .int .i64 l, .int .i64 k] wx fun e w' => e = .returned (.tuple #[.int .i64 (bakerV zs sd cy l k), .agg #[.int .i64 0, .int .i64 (-1)]]) ∧ Below wx.heap.size wx w'))
 clear hsd
 generalize zs.length = nz at *
 generalize hm : ls.length = n at *
 have Hm := Lib.hid hm; clear hm
 simp only [restS16, restS12, restS5, restS1, bodyS, Tryd.f12, Option.getD_some]
 go_wp2_with fail
 go_loopg [18] n (fun g i wr => ∃ t : Nat, g + t = n ∧ i = .int .i64 t ∧ Below w.heap.size w wr)
 case atStart => exact ⟨0, rfl, rfl, Below.refl _ _⟩
 case round =>
   obtain ⟨t, hg, rfl, hT⟩ := hrel
   have HG := Lib.hid hg
   have H := Lib.hid hT
   clear hg hT
   by_cases ht : t < n
   · obtain ⟨rb, cp, ho, hrow⟩ := HO.out t ht
     have HROW := Lib.hid hrow
     have HO0 := Lib.hid ho
     obtain ⟨lb, lo, ha, hcx⟩ := HL.out.cells t ht
     have HCX := Lib.hid hcx
     have HZT := Lib.hid (HZ.out t ht)
     clear hrow hcx
     subst ha
     have q0 : wr.cell? ⟨Bo, t, none⟩ = some (.slice (some ⟨rb, 0, none⟩) 8 cp) := by rw [H.out.cell (p := ⟨Bo, t, none⟩) (World.block_lt_of_cell? _ _ ho)]; exact ho
     clear ho
     generalize ls.getD t 0 = lv at *
     go_wp2_with fail
     clear q0
     obtain ⟨wo, rfl⟩ : ∃ wo : World, wo = wr := ⟨_, rfl⟩
     go_loopw [19] (fun i wx => ∃ k : Nat, k ≤ 8 ∧ i = .int .i64 k ∧ Below w.heap.size w wx) (fun i _ => 8 - (intOf i).toNat)
     case atStart => exact ⟨0, by omega, rfl, H.out⟩
     case round =>
       obtain ⟨k, hk, rfl, hM⟩ := hrel
       have M := Lib.hid hM; clear hM
       by_cases hlt : k < 8
       · have HC := Lib.hid (HBo.out lv HZT.out k hlt _ (HR.out.below M.out))
         have HV := Lib.hid (HROW.out k hlt)
         have q1 : wr.cell? ⟨lb, lo + t, none⟩ = some (.int .i64 lv) := by rw [M.out.cell (p := ⟨lb, lo + t, none⟩) (World.block_lt_of_cell? _ _ HCX.out)]; exact HCX.out
         generalize bakerV zs sd cy lv k = bv at *
         go_wp2_with fail
         refine HC.out.mono ?_
         rintro e w10 ⟨rfl, hb10⟩
         have M10 := btrans M.out hb10
         have M2 := Lib.hid (M10.alloc M10.size (.cells #[.int .i64 0, .int .i64 (-1)] 72))
         have q2 : w10.cell? ⟨Bo, t, none⟩ = some (.slice (some ⟨rb, 0, none⟩) 8 cp) := by rw [M10.cell (p := ⟨Bo, t, none⟩) (World.block_lt_of_cell? _ _ HO0.out)]; exact HO0.out
         have q3 : w10.cell? ⟨rb, k, none⟩ = some (.int .i64 bv) := by rw [M10.cell (p := ⟨rb, k, none⟩) (World.block_lt_of_cell? _ _ HV.out)]; exact HV.out
         have l2 := World.block_lt_of_cell? _ _ q2
         have l3 := World.block_lt_of_cell? _ _ q3
         have tt : (bv != bv) = false := bne_self_eq_false _
         clear M10 hb10 q1
         go_wp2_with fail
         go_roundw
         case rel => exact ⟨k + 1, by omega, by go_num, M2.out⟩
         case measure => simp [intOf]; omega
       · obtain rfl : k = 8 := by omega
         go_wp2_with fail
         have hg := HG.out
         go_roundg (n - (t + 1))
         case measure => omega
         case rel => exact ⟨t + 1, by omega, by go_num, M.out⟩
   · go_wp2_with fail
     go_ret
     exact ⟨_, rfl, rfl⟩
end Go.Proofs.YtajnfkmkombajabDoor
namespace Go.Proofs.YtajnfkmkombajabDoor
open Go Go.Conc Go.ConcN Go.RowKit Go.Conc.Lib Go.ConcR.Gen Go.ConcN.Gen
section
variable {n0 : Nat} {A : Nat → Addr} {W0 : World} {aw av : Option Addr} {cw cv : Nat} {sd : Nat} {cy wk : Int} {zs ls : List Int} {X0 X1 : Value} {Bf : Nat}
set_option maxRecDepth 100000 in
set_option maxHeartbeats 8000000 in
theorem loop1_good {S M : Nat → Prop} {W : World} {Stop : Goroutine → World → (Nat → Prop) → Prop} {T : Array Value} {i : Nat} (hK : (Kn aw cw zs sd cy av cv ls X0 X1 Bf i T)) (hn : ls.length < 1000000) (hi : i < ls.length) (hsd : sd < 18446744073709551616)
   (hS : ∀ b, b < n0 → S b ∨ M b) (hM : ∀ b, M b → b < W.heap.size) (hsz : n0 ≤ W.heap.size) (hg : Tryd.prog.globals.size ≤ W.heap.size) (hw : ArgRow n0 W aw cw zs) (hv : ArgRow n0 W av cv ls) (hb : (bakerF zs cy (ls.getD i 0) 0).1 = 0)
   (mf : M Bf) (hf : W.heap[Bf]? = some (.cells #[.int .i64 0, .int .i64 (-1)] 72 (0, 0)))
   (hk : ∀ (T1 : Array Value) (W1 : World) (M1 : Nat → Prop), (Kn aw cw zs sd cy av cv ls X0 X1 Bf (i + 1) T1) → (∀ b, M b → M1 b) → (∀ b, M1 b → b < W1.heap.size) → RelyS (fun x => S x ∧ x ≠ Bf) (fun x => M x ∧ x ≠ Bf) W W1 → W1.heap[Bf]? = some (.cells #[.int .i64 0, .int .i64 (-1)] 72 (0, 0)) →
     GoesW Tryd.prog true (fun _ => True) S Stop (G ((base 12).at ⟨T1, []⟩ [.code cL1, .inLoop cL1, .inBlock 0, .code restS12]) []) W1 M1) :
   GoesW Tryd.prog true (fun _ => True) S Stop (G ((base 12).at ⟨T, []⟩ [.code cL1, .inLoop cL1, .inBlock 0, .code restS12]) []) W M := by
 obtain ⟨hT, hs⟩ := hK
 obtain ⟨v, rfl⟩ := arr137 T hT
 clear hT
 simp only [List.getElem?_toArray, List.getElem?_cons_zero, List.getElem?_cons_succ, Option.some.injEq] at hs
 obtain ⟨e0, e1, e2, e3, e10, e12, e13, e14, e15⟩ := hs
 simp only [e0, e1, e2, e3, e10, e12, e13, e14, e15]
 clear e0 e1 e2 e3 e10 e12 e13 e14 e15
 revert hk
 generalize restS12 = rr
 generalize hcc : cL1 = cc
 intro hk
 rw [show Item.code cc = Item.code cL1 by rw [hcc]]
 simp only [cL1, restS5, restS1, bodyS, Tryd.f12, Option.getD_some]
 obtain ⟨lb, lo, rfl, hc⟩ := hv.rd.cells i hi
 have hlb : S lb ∨ M lb := hS lb (hv.blk _ rfl).1
 have k0 : W.cell? ⟨Bf, 0, none⟩ = some (.int .i64 0) := by rw [at_cell hf]; rfl
 generalize hlv : ls.getD i 0 = lv at *
 generalize hm : ls.length = n at *
 have hd : decide ((i : Int) < (n : Int)) = true := by simp; omega
 repeat (first
   | refine gw_seq ?_
   | refine gw_skip ?_
   | refine gw_block ?_
   | refine gw_loop ?_
   | refine gw_inLoop ?_
   | refine gw_inBlock ?_
   | refine gw_region_end ?_
   | refine gw_label ?_
   | refine gw_ret ?_
   | (refine gw_region ?_; simp only [List.size_toArray, List.length_cons, List.length_nil, Nat.reduceAdd, Nat.zero_add, List.range, List.range.loop])
   | refine gw_exit rfl ?_
   | refine gw_yes rfl ?_
   | refine gw_no rfl ?_
   | (refine gw_op rfl rfl (by k_ne) (fun wq rq iq Kq hKq => ?_)
      go_simp
      refine hKq _ ?_ ?_
      · intro eq heq
        have hmq := mem_listed heq
        simp [go_sem, *] at hmq
      clear hKq Kq rq iq wq
      try w_num)
   | (refine gw_unwanted rfl rfl ?_; walk_nrm)
   | (refine gw_defer rfl rfl (by k_ne) rfl ?_; walk_nrm))
 refine gw_op rfl rfl (by k_ne) (fun wq rq iq Kq hKq => ?_)
 have hl := cell_rely rq (.inr mf) k0
 go_simp
 refine hKq _ ?_ ?_
 · intro eq heq
   have hmq := mem_listed heq
   simp [go_sem, *] at hmq
   subst hmq
   exact evOk_rd (.inr mf)
 clear hKq Kq hl rq iq wq
 repeat (first
   | refine gw_seq ?_
   | refine gw_skip ?_
   | refine gw_block ?_
   | refine gw_loop ?_
   | refine gw_inLoop ?_
   | refine gw_inBlock ?_
   | refine gw_region_end ?_
   | refine gw_label ?_
   | refine gw_ret ?_
   | (refine gw_region ?_; simp only [List.size_toArray, List.length_cons, List.length_nil, Nat.reduceAdd, Nat.zero_add, List.range, List.range.loop])
   | refine gw_exit rfl ?_
   | refine gw_yes rfl ?_
   | refine gw_no rfl ?_
   | (refine gw_op rfl rfl (by k_ne) (fun wq rq iq Kq hKq => ?_)
      go_simp
      refine hKq _ ?_ ?_
      · intro eq heq
        have hmq := mem_listed heq
        simp [go_sem, *] at hmq
      clear hKq Kq rq iq wq
      try w_num)
   | (refine gw_unwanted rfl rfl ?_; walk_nrm)
   | (refine gw_defer rfl rfl (by k_ne) rfl ?_; walk_nrm))
 refine gw_op rfl rfl (by k_ne) (fun wq rq iq Kq hKq => ?_)
 have hl := cell_rely rq hlb hc
 go_simp
 refine hKq _ ?_ ?_
 · intro eq heq
   have hmq := mem_listed heq
   simp [go_sem, *] at hmq
   subst hmq
   exact evOk_rd (hlb)
 clear hKq Kq hl rq iq wq
 repeat (first
   | refine gw_seq ?_
   | refine gw_skip ?_
   | refine gw_block ?_
   | refine gw_loop ?_
   | refine gw_inLoop ?_
   | refine gw_inBlock ?_
   | refine gw_region_end ?_
   | refine gw_label ?_
   | refine gw_ret ?_
   | (refine gw_region ?_; simp only [List.size_toArray, List.length_cons, List.length_nil, Nat.reduceAdd, Nat.zero_add, List.range, List.range.loop])
   | refine gw_exit rfl ?_
   | refine gw_yes rfl ?_
   | refine gw_no rfl ?_
   | (refine gw_op rfl rfl (by k_ne) (fun wq rq iq Kq hKq => ?_)
      go_simp
      refine hKq _ ?_ ?_
      · intro eq heq
        have hmq := mem_listed heq
        simp [go_sem, *] at hmq
      clear hKq Kq rq iq wq
      try w_num)
   | (refine gw_unwanted rfl rfl ?_; walk_nrm)
   | (refine gw_defer rfl rfl (by k_ne) rfl ?_; walk_nrm))
 refine gw_callE (x := #[.slice aw zs.length cw, .int .u64 sd, .int .i64 cy, .int .i64 lv, .int .i64 0]) rfl rfl (by k_ne) rfl Tryd.func65 (by kernel_rfl) rfl (by walk_nrm) ?_
 refine gw_bakerOf hw hS hM hg hsd cy lv 0 fun W1 N hN q1 => ?_
 rw [Frame.finish_at]
 generalize (if (bakerF zs cy lv 0).1 = 0 then bakerV zs sd cy lv 0 else 0) = kv
 generalize (bakerF zs cy lv 0).1 = c0 at *
 generalize (bakerF zs cy lv 0).2 = e0 at *
 generalize hcz : (c0 : Int) = cz at *
 have hgt : decide ((0 : Int) < cz) = false := by subst hcz; simp; omega
 walk_nrm
 repeat (first
   | refine gw_seq ?_
   | refine gw_skip ?_
   | refine gw_block ?_
   | refine gw_loop ?_
   | refine gw_inLoop ?_
   | refine gw_inBlock ?_
   | refine gw_region_end ?_
   | refine gw_label ?_
   | refine gw_ret ?_
   | (refine gw_region ?_; simp only [List.size_toArray, List.length_cons, List.length_nil, Nat.reduceAdd, Nat.zero_add, List.range, List.range.loop])
   | refine gw_exit rfl ?_
   | refine gw_yes rfl ?_
   | refine gw_no rfl ?_
   | (refine gw_op rfl rfl (by k_ne) (fun wq rq iq Kq hKq => ?_)
      go_simp
      refine hKq _ ?_ ?_
      · intro eq heq
        have hmq := mem_listed heq
        simp [go_sem, *] at hmq
      clear hKq Kq rq iq wq
      try w_num)
   | (refine gw_unwanted rfl rfl ?_; walk_nrm)
   | (refine gw_defer rfl rfl (by k_ne) rfl ?_; walk_nrm))
 refine gw_push (v := fun B => .pointer (some ⟨B, 0, none⟩)) (ob := .cells #[.int .i64 0, .int .i64 0] 72 (0, 0)) rfl rfl (by k_ne) (fun w _ _ => by go_simp) (fun w _ _ e he => by have hm := mem_listed he; simp [go_sem] at hm) (fun W2 B r2 l2 g2 x2 => ?_)
 walk_nrm
 (refine gw_op rfl rfl (by k_ne) (fun wq rq iq Kq hKq => ?_)
  go_simp
  refine hKq _ ?_ ?_
  · intro eq heq
    have hmq := mem_listed heq
    simp [go_sem, *] at hmq
  clear hKq Kq rq iq wq
  try w_num)
 refine gw_store (g := B) (off := 0) (v := .agg #[.int .i64 cz, .int .i64 e0]) (cur := #[.int .i64 0, .int .i64 0]) rfl rfl (by k_ne) rfl rfl rfl ?_ (.inr rfl) g2 x2 (by simp [Value.cells]) ?_ (fun W3 r3 x3 => ?_)
 · simp only [Value.cells]; kernel_rfl
 · simp [Value.cells, Value.oneCell']
 simp only [Value.cells, List.take_zero, List.nil_append, List.size_toArray, List.length_cons, List.length_nil, Nat.reduceAdd, Nat.zero_add, List.drop_succ_cons, List.drop_nil, List.drop_zero, List.append_nil, Array.toArray_toList] at x3
 have k3 : W3.cell? ⟨B, 0, none⟩ = some (.int .i64 cz) := by rw [at_cell x3]; rfl
 walk_nrm
 repeat (first
   | refine gw_seq ?_
   | refine gw_skip ?_
   | refine gw_block ?_
   | refine gw_loop ?_
   | refine gw_inLoop ?_
   | refine gw_inBlock ?_
   | refine gw_region_end ?_
   | refine gw_label ?_
   | refine gw_ret ?_
   | (refine gw_region ?_; simp only [List.size_toArray, List.length_cons, List.length_nil, Nat.reduceAdd, Nat.zero_add, List.range, List.range.loop])
   | refine gw_exit rfl ?_
   | refine gw_yes rfl ?_
   | refine gw_no rfl ?_
   | (refine gw_op rfl rfl (by k_ne) (fun wq rq iq Kq hKq => ?_)
      go_simp
      refine hKq _ ?_ ?_
      · intro eq heq
        have hmq := mem_listed heq
        simp [go_sem, *] at hmq
      clear hKq Kq rq iq wq
      try w_num)
   | (refine gw_unwanted rfl rfl ?_; walk_nrm)
   | (refine gw_defer rfl rfl (by k_ne) rfl ?_; walk_nrm))
 refine gw_op rfl rfl (by k_ne) (fun wq rq iq Kq hKq => ?_)
 have hl := cell_rely rq (.inr (.inr rfl)) k3
 go_simp
 refine hKq _ ?_ ?_
 · intro eq heq
   have hmq := mem_listed heq
   simp [go_sem, *] at hmq
   subst hmq
   exact evOk_rd (.inr (.inr rfl))
 clear hKq Kq hl rq iq wq
 repeat (first
   | refine gw_seq ?_
   | refine gw_skip ?_
   | refine gw_block ?_
   | refine gw_loop ?_
   | refine gw_inLoop ?_
   | refine gw_inBlock ?_
   | refine gw_region_end ?_
   | refine gw_label ?_
   | refine gw_ret ?_
   | (refine gw_region ?_; simp only [List.size_toArray, List.length_cons, List.length_nil, Nat.reduceAdd, Nat.zero_add, List.range, List.range.loop])
   | refine gw_exit rfl ?_
   | refine gw_yes rfl ?_
   | refine gw_no rfl ?_
   | (refine gw_op rfl rfl (by k_ne) (fun wq rq iq Kq hKq => ?_)
      go_simp
      refine hKq _ ?_ ?_
      · intro eq heq
        have hmq := mem_listed heq
        simp [go_sem, *] at hmq
      clear hKq Kq rq iq wq
      try w_num)
   | (refine gw_unwanted rfl rfl ?_; walk_nrm)
   | (refine gw_defer rfl rfl (by k_ne) rfl ?_; walk_nrm))
 have s1 := q1.size
 have s2 := r2.size
 have s3 := r3.size
 have lf := hM Bf mf
 have q13 : RelyS S M W W3 := q1.trans (rely_fresh' (M := M) (r2.mono fun b q => q.imp (fun q => q) .inl) l2 (fun b q => .inl (.inl q)) r3)
 have hf3 : W3.heap[Bf]? = some (.cells #[.int .i64 0, .int .i64 (-1)] 72 (0, 0)) := by rw [q13.keep Bf lf (.inr mf)]; exact hf
 have hM3 : ∀ b, ((M b ∨ N b) ∨ b = B) → b < W3.heap.size := fun b q => by
   rcases q with (q | q) | q
   · have := hM b q; omega
   · have := (hN b q).2; omega
   · omega
 subst hm
 rw [show IntKind.i64.wrap ((i : Int) + 1) = ((i + 1 : Nat) : Int) by rw [IntKind.wrap_i64]; omega]
 refine hk _ W3 _ ?_ (fun b q => .inl (.inl q)) (fun b q => hM3 b q) (q13.mono fun b q => q.imp And.left And.left) hf3
 exact ⟨rfl, rfl, rfl, rfl, rfl, rfl, rfl, rfl, rfl, rfl⟩
end
end Go.Proofs.YtajnfkmkombajabDoor
