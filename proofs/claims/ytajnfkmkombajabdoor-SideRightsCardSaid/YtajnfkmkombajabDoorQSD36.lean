/-
  One turn of SideRights' loop over the levels, a fault.
  SideRights' loop over the levels.
  The last loop of SideRights, in company, to the end of the run.
-/
import Derived.Test.YtajnfkmkombajabDoorQSD33
import Derived.Test.YtajnfkmkombajabDoorQSD35
set_option linter.unusedVariables false
set_option linter.unusedSimpArgs false
namespace Go.Proofs.YtajnfkmkombajabDoor
open Go Go.Conc Go.ConcN Go.RowKit Go.Conc.Lib Go.ConcR.Gen Go.ConcN.Gen
section
variable {n0 : Nat} {A : Nat → Addr} {W0 : World} {aw av : Option Addr} {cw cv : Nat} {sd : Nat} {cy wk : Int} {zs ls : List Int} {X0 X1 : Value} {Bf : Nat}
set_option maxRecDepth 100000 in
set_option maxHeartbeats 8000000 in
theorem loop1_bad {S M : Nat → Prop} {W : World} {Stop : Goroutine → World → (Nat → Prop) → Prop} {T : Array Value} {i : Nat} (hK : (Kn aw cw zs sd cy av cv ls X0 X1 Bf i T)) (hn : ls.length < 1000000) (hi : i < ls.length) (hsd : sd < 18446744073709551616)
   (hS : ∀ b, b < n0 → S b ∨ M b) (hM : ∀ b, M b → b < W.heap.size) (hsz : n0 ≤ W.heap.size) (hg : Tryd.prog.globals.size ≤ W.heap.size) (hw : ArgRow n0 W aw cw zs) (hv : ArgRow n0 W av cv ls) (hb : (bakerF zs cy (ls.getD i 0) 0).1 ≠ 0)
   (mf : M Bf) (hf : W.heap[Bf]? = some (.cells #[.int .i64 0, .int .i64 (-1)] 72 (0, 0)))
   (hk : ∀ (T1 : Array Value) (W1 : World) (M1 : Nat → Prop), (Kn aw cw zs sd cy av cv ls X0 X1 Bf (i + 1) T1) → (∀ b, M b → M1 b) → (∀ b, M1 b → b < W1.heap.size) → RelyS (fun x => S x ∧ x ≠ Bf) (fun x => M x ∧ x ≠ Bf) W W1 → W1.heap[Bf]? = some (.cells #[.int .i64 ((bakerF zs cy (ls.getD i 0) 0).1 : Int), .int .i64 (i : Int)] 72 (0, 0)) →
     GoesW Tryd.prog true (fun _ => True) S Stop (G ((base 12).at ⟨T1, []⟩ [.code cL1, .inLoop cL1, .inBlock 0, .code restS12]) []) W1 M1) :
   GoesW Tryd.prog true (fun _ => True) S Stop (G ((base 12).at ⟨T, []⟩ [.code cL1, .inLoop cL1, .inBlock 0, .code restS12]) []) W M := by
 obtain ⟨hT, hs⟩ := hK
 obtain ⟨v, rfl⟩ := arr137 T hT
 clear hT
 simp only [List.getElem?_toArray, List.getElem?_cons_zero, List.getElem?_cons_succ, Option.some.injEq] at hs
 obtain ⟨e0, e1, e2, e3, e10, e12, e13, e14, e15⟩ := hs
 simp only [e0, e1, e2, e3, e10, e12, e13, e14, e15]
 clear e0 e1 e2 e3 e10 e12 e13 e14 e15
 revert hk
 generalize restS12 = rr
 generalize hcc : cL1 = cc
 intro hk
 rw [show Item.code cc = Item.code cL1 by rw [hcc]]
 simp only [cL1, restS5, restS1, bodyS, Tryd.f12, Option.getD_some]
 obtain ⟨lb, lo, rfl, hc⟩ := hv.rd.cells i hi
 have hlb : S lb ∨ M lb := hS lb (hv.blk _ rfl).1
 have k0 : W.cell? ⟨Bf, 0, none⟩ = some (.int .i64 0) := by rw [at_cell hf]; rfl
 generalize hlv : ls.getD i 0 = lv at *
 generalize hm : ls.length = n at *
 have hd : decide ((i : Int) < (n : Int)) = true := by simp; omega
 repeat (first
   | refine gw_seq ?_
   | refine gw_skip ?_
   | refine gw_block ?_
   | refine gw_loop ?_
   | refine gw_inLoop ?_
   | refine gw_inBlock ?_
   | refine gw_region_end ?_
   | refine gw_label ?_
   | refine gw_ret ?_
   | (refine gw_region ?_; simp only [List.size_toArray, List.length_cons, List.length_nil, Nat.reduceAdd, Nat.zero_add, List.range, List.range.loop])
   | refine gw_exit rfl ?_
   | refine gw_yes rfl ?_
   | refine gw_no rfl ?_
   | (refine gw_op rfl rfl (by k_ne) (fun wq rq iq Kq hKq => ?_)
      go_simp
      refine hKq _ ?_ ?_
      · intro eq heq
        have hmq := mem_listed heq
        simp [go_sem, *] at hmq
      clear hKq Kq rq iq wq
      try w_num)
   | (refine gw_unwanted rfl rfl ?_; walk_nrm)
   | (refine gw_defer rfl rfl (by k_ne) rfl ?_; walk_nrm))
 refine gw_op rfl rfl (by k_ne) (fun wq rq iq Kq hKq => ?_)
 have hl := cell_rely rq (.inr mf) k0
 go_simp
 refine hKq _ ?_ ?_
 · intro eq heq
   have hmq := mem_listed heq
   simp [go_sem, *] at hmq
   subst hmq
   exact evOk_rd (.inr mf)
 clear hKq Kq hl rq iq wq
 repeat (first
   | refine gw_seq ?_
   | refine gw_skip ?_
   | refine gw_block ?_
   | refine gw_loop ?_
   | refine gw_inLoop ?_
   | refine gw_inBlock ?_
   | refine gw_region_end ?_
   | refine gw_label ?_
   | refine gw_ret ?_
   | (refine gw_region ?_; simp only [List.size_toArray, List.length_cons, List.length_nil, Nat.reduceAdd, Nat.zero_add, List.range, List.range.loop])
   | refine gw_exit rfl ?_
   | refine gw_yes rfl ?_
   | refine gw_no rfl ?_
   | (refine gw_op rfl rfl (by k_ne) (fun wq rq iq Kq hKq => ?_)
      go_simp
      refine hKq _ ?_ ?_
      · intro eq heq
        have hmq := mem_listed heq
        simp [go_sem, *] at hmq
      clear hKq Kq rq iq wq
      try w_num)
   | (refine gw_unwanted rfl rfl ?_; walk_nrm)
   | (refine gw_defer rfl rfl (by k_ne) rfl ?_; walk_nrm))
 refine gw_op rfl rfl (by k_ne) (fun wq rq iq Kq hKq => ?_)
 have hl := cell_rely rq hlb hc
 go_simp
 refine hKq _ ?_ ?_
 · intro eq heq
   have hmq := mem_listed heq
   simp [go_sem, *] at hmq
   subst hmq
   exact evOk_rd (hlb)
 clear hKq Kq hl rq iq wq
 repeat (first
   | refine gw_seq ?_
   | refine gw_skip ?_
   | refine gw_block ?_
   | refine gw_loop ?_
   | refine gw_inLoop ?_
   | refine gw_inBlock ?_
   | refine gw_region_end ?_
   | refine gw_label ?_
   | refine gw_ret ?_
   | (refine gw_region ?_; simp only [List.size_toArray, List.length_cons, List.length_nil, Nat.reduceAdd, Nat.zero_add, List.range, List.range.loop])
   | refine gw_exit rfl ?_
   | refine gw_yes rfl ?_
   | refine gw_no rfl ?_
   | (refine gw_op rfl rfl (by k_ne) (fun wq rq iq Kq hKq => ?_)
      go_simp
      refine hKq _ ?_ ?_
      · intro eq heq
        have hmq := mem_listed heq
        simp [go_sem, *] at hmq
      clear hKq Kq rq iq wq
      try w_num)
   | (refine gw_unwanted rfl rfl ?_; walk_nrm)
   | (refine gw_defer rfl rfl (by k_ne) rfl ?_; walk_nrm))
 refine gw_callE (x := #[.slice aw zs.length cw, .int .u64 sd, .int .i64 cy, .int .i64 lv, .int .i64 0]) rfl rfl (by k_ne) rfl Tryd.func65 (by kernel_rfl) rfl (by walk_nrm) ?_
 refine gw_bakerOf hw hS hM hg hsd cy lv 0 fun W1 N hN q1 => ?_
 rw [Frame.finish_at]
 generalize (if (bakerF zs cy lv 0).1 = 0 then bakerV zs sd cy lv 0 else 0) = kv
 generalize (bakerF zs cy lv 0).1 = c0 at *
 generalize (bakerF zs cy lv 0).2 = e0 at *
 generalize hcz : (c0 : Int) = cz at *
 have hgt : decide ((0 : Int) < cz) = true := by subst hcz; simp; omega
 walk_nrm
 repeat (first
   | refine gw_seq ?_
   | refine gw_skip ?_
   | refine gw_block ?_
   | refine gw_loop ?_
   | refine gw_inLoop ?_
   | refine gw_inBlock ?_
   | refine gw_region_end ?_
   | refine gw_label ?_
   | refine gw_ret ?_
   | (refine gw_region ?_; simp only [List.size_toArray, List.length_cons, List.length_nil, Nat.reduceAdd, Nat.zero_add, List.range, List.range.loop])
   | refine gw_exit rfl ?_
   | refine gw_yes rfl ?_
   | refine gw_no rfl ?_
   | (refine gw_op rfl rfl (by k_ne) (fun wq rq iq Kq hKq => ?_)
      go_simp
      refine hKq _ ?_ ?_
      · intro eq heq
        have hmq := mem_listed heq
        simp [go_sem, *] at hmq
      clear hKq Kq rq iq wq
      try w_num)
   | (refine gw_unwanted rfl rfl ?_; walk_nrm)
   | (refine gw_defer rfl rfl (by k_ne) rfl ?_; walk_nrm))
 refine gw_push (v := fun B => .pointer (some ⟨B, 0, none⟩)) (ob := .cells #[.int .i64 0, .int .i64 0] 72 (0, 0)) rfl rfl (by k_ne) (fun w _ _ => by go_simp) (fun w _ _ e he => by have hm := mem_listed he; simp [go_sem] at hm) (fun W2 B r2 l2 g2 x2 => ?_)
 walk_nrm
 (refine gw_op rfl rfl (by k_ne) (fun wq rq iq Kq hKq => ?_)
  go_simp
  refine hKq _ ?_ ?_
  · intro eq heq
    have hmq := mem_listed heq
    simp [go_sem, *] at hmq
  clear hKq Kq rq iq wq
  try w_num)
 refine gw_store (g := B) (off := 0) (v := .agg #[.int .i64 cz, .int .i64 e0]) (cur := #[.int .i64 0, .int .i64 0]) rfl rfl (by k_ne) rfl rfl rfl ?_ (.inr rfl) g2 x2 (by simp [Value.cells]) ?_ (fun W3 r3 x3 => ?_)
 · simp only [Value.cells]; kernel_rfl
 · simp [Value.cells, Value.oneCell']
 simp only [Value.cells, List.take_zero, List.nil_append, List.size_toArray, List.length_cons, List.length_nil, Nat.reduceAdd, Nat.zero_add, List.drop_succ_cons, List.drop_nil, List.drop_zero, List.append_nil, Array.toArray_toList] at x3
 have k3 : W3.cell? ⟨B, 0, none⟩ = some (.int .i64 cz) := by rw [at_cell x3]; rfl
 walk_nrm
 repeat (first
   | refine gw_seq ?_
   | refine gw_skip ?_
   | refine gw_block ?_
   | refine gw_loop ?_
   | refine gw_inLoop ?_
   | refine gw_inBlock ?_
   | refine gw_region_end ?_
   | refine gw_label ?_
   | refine gw_ret ?_
   | (refine gw_region ?_; simp only [List.size_toArray, List.length_cons, List.length_nil, Nat.reduceAdd, Nat.zero_add, List.range, List.range.loop])
   | refine gw_exit rfl ?_
   | refine gw_yes rfl ?_
   | refine gw_no rfl ?_
   | (refine gw_op rfl rfl (by k_ne) (fun wq rq iq Kq hKq => ?_)
      go_simp
      refine hKq _ ?_ ?_
      · intro eq heq
        have hmq := mem_listed heq
        simp [go_sem, *] at hmq
      clear hKq Kq rq iq wq
      try w_num)
   | (refine gw_unwanted rfl rfl ?_; walk_nrm)
   | (refine gw_defer rfl rfl (by k_ne) rfl ?_; walk_nrm))
 refine gw_op rfl rfl (by k_ne) (fun wq rq iq Kq hKq => ?_)
 have hl := cell_rely rq (.inr (.inr rfl)) k3
 go_simp
 refine hKq _ ?_ ?_
 · intro eq heq
   have hmq := mem_listed heq
   simp [go_sem, *] at hmq
   subst hmq
   exact evOk_rd (.inr (.inr rfl))
 clear hKq Kq hl rq iq wq
 repeat (first
   | refine gw_seq ?_
   | refine gw_skip ?_
   | refine gw_block ?_
   | refine gw_loop ?_
   | refine gw_inLoop ?_
   | refine gw_inBlock ?_
   | refine gw_region_end ?_
   | refine gw_label ?_
   | refine gw_ret ?_
   | (refine gw_region ?_; simp only [List.size_toArray, List.length_cons, List.length_nil, Nat.reduceAdd, Nat.zero_add, List.range, List.range.loop])
   | refine gw_exit rfl ?_
   | refine gw_yes rfl ?_
   | refine gw_no rfl ?_
   | (refine gw_op rfl rfl (by k_ne) (fun wq rq iq Kq hKq => ?_)
      go_simp
      refine hKq _ ?_ ?_
      · intro eq heq
        have hmq := mem_listed heq
        simp [go_sem, *] at hmq
      clear hKq Kq rq iq wq
      try w_num)
   | (refine gw_unwanted rfl rfl ?_; walk_nrm)
   | (refine gw_defer rfl rfl (by k_ne) rfl ?_; walk_nrm))
 refine gw_op rfl rfl (by k_ne) (fun wq rq iq Kq hKq => ?_)
 have hl := cell_rely rq (.inr (.inr rfl)) k3
 go_simp
 refine hKq _ ?_ ?_
 · intro eq heq
   have hmq := mem_listed heq
   simp [go_sem, *] at hmq
   subst hmq
   exact evOk_rd (.inr (.inr rfl))
 clear hKq Kq hl rq iq wq
 repeat (first
   | refine gw_seq ?_
   | refine gw_skip ?_
   | refine gw_block ?_
   | refine gw_loop ?_
   | refine gw_inLoop ?_
   | refine gw_inBlock ?_
   | refine gw_region_end ?_
   | refine gw_label ?_
   | refine gw_ret ?_
   | (refine gw_region ?_; simp only [List.size_toArray, List.length_cons, List.length_nil, Nat.reduceAdd, Nat.zero_add, List.range, List.range.loop])
   | refine gw_exit rfl ?_
   | refine gw_yes rfl ?_
   | refine gw_no rfl ?_
   | (refine gw_op rfl rfl (by k_ne) (fun wq rq iq Kq hKq => ?_)
      go_simp
      refine hKq _ ?_ ?_
      · intro eq heq
        have hmq := mem_listed heq
        simp [go_sem, *] at hmq
      clear hKq Kq rq iq wq
      try w_num)
   | (refine gw_unwanted rfl rfl ?_; walk_nrm)
   | (refine gw_defer rfl rfl (by k_ne) rfl ?_; walk_nrm))
 have s1 := q1.size
 have s2 := r2.size
 have s3 := r3.size
 have lf := hM Bf mf
 have q13 : RelyS S M W W3 := q1.trans (rely_fresh' (M := M) (r2.mono fun b q => q.imp (fun q => q) .inl) l2 (fun b q => .inl (.inl q)) r3)
 have hf3 : W3.heap[Bf]? = some (.cells #[.int .i64 0, .int .i64 (-1)] 72 (0, 0)) := by rw [q13.keep Bf lf (.inr mf)]; exact hf
 have hM3 : ∀ b, ((M b ∨ N b) ∨ b = B) → b < W3.heap.size := fun b q => by
   rcases q with (q | q) | q
   · have := hM b q; omega
   · have := (hN b q).2; omega
   · omega
 refine gw_store (g := Bf) (off := 0) (v := .agg #[.int .i64 cz, .int .i64 (i : Int)]) (cur := #[.int .i64 0, .int .i64 (-1)]) rfl rfl (by k_ne) rfl rfl rfl ?_ (.inl (.inl mf)) (by omega) hf3 (by simp [Value.cells]) ?_ (fun W4 r4 x4 => ?_)
 · simp only [Value.cells]; kernel_rfl
 · simp [Value.cells, Value.oneCell']
 simp only [Value.cells, List.take_zero, List.nil_append, List.size_toArray, List.length_cons, List.length_nil, Nat.reduceAdd, Nat.zero_add, List.drop_succ_cons, List.drop_nil, List.drop_zero, List.append_nil, Array.toArray_toList] at x4
 have s4 := r4.size
 walk_nrm
 repeat (first
   | refine gw_seq ?_
   | refine gw_skip ?_
   | refine gw_block ?_
   | refine gw_loop ?_
   | refine gw_inLoop ?_
   | refine gw_inBlock ?_
   | refine gw_region_end ?_
   | refine gw_label ?_
   | refine gw_ret ?_
   | (refine gw_region ?_; simp only [List.size_toArray, List.length_cons, List.length_nil, Nat.reduceAdd, Nat.zero_add, List.range, List.range.loop])
   | refine gw_exit rfl ?_
   | refine gw_yes rfl ?_
   | refine gw_no rfl ?_
   | (refine gw_op rfl rfl (by k_ne) (fun wq rq iq Kq hKq => ?_)
      go_simp
      refine hKq _ ?_ ?_
      · intro eq heq
        have hmq := mem_listed heq
        simp [go_sem, *] at hmq
      clear hKq Kq rq iq wq
      try w_num)
   | (refine gw_unwanted rfl rfl ?_; walk_nrm)
   | (refine gw_defer rfl rfl (by k_ne) rfl ?_; walk_nrm))
 subst hm
 rw [show IntKind.i64.wrap ((i : Int) + 1) = ((i + 1 : Nat) : Int) by rw [IntKind.wrap_i64]; omega]
 refine hk _ W4 _ ?_ (fun b q => .inl (.inl q)) (fun b q => Nat.lt_of_lt_of_le (hM3 b q) s4) ((q13.mono fun b q => q.imp And.left And.left).trans (r4.mono fun b q => q.imp (fun q => q) fun q => ⟨.inl (.inl q.1), q.2⟩)) x4
 exact ⟨rfl, rfl, rfl, rfl, rfl, rfl, rfl, rfl, rfl, rfl⟩
end
end Go.Proofs.YtajnfkmkombajabDoor
namespace Go.Proofs.YtajnfkmkombajabDoor
open Go Go.Conc Go.ConcN Go.RowKit Go.Conc.Lib Go.ConcR.Gen Go.ConcN.Gen
section
variable {n0 : Nat} {A : Nat → Addr} {W0 : World} {aw av : Option Addr} {cw cv : Nat} {sd : Nat} {cy wk : Int} {zs ls : List Int} {X0 X1 : Value} {Bf : Nat} {o1 o2 : Option Addr} {c1 c2 : Nat}
set_option maxRecDepth 100000 in
set_option maxHeartbeats 8000000 in
theorem loop1_exit1 {S M : Nat → Prop} {W : World} {Stop : Goroutine → World → (Nat → Prop) → Prop} {T : Array Value} {i : Nat} (hK : (Kn aw cw zs sd cy av cv ls X0 X1 Bf i T)) (hn : ls.length < 1000000) (hi : ls.length ≤ i)
   (hk : ∀ T1 : Array Value, (Kn aw cw zs sd cy av cv ls X0 X1 Bf i T1) → GoesW Tryd.prog true (fun _ => True) S Stop (G ((base 12).at ⟨T1, []⟩ [.code restS12]) []) W M) :
   GoesW Tryd.prog true (fun _ => True) S Stop (G ((base 12).at ⟨T, []⟩ [.code cL1, .inLoop cL1, .inBlock 0, .code restS12]) []) W M := by
 obtain ⟨hT, hs⟩ := hK
 obtain ⟨v, rfl⟩ := arr137 T hT
 clear hT
 simp only [List.getElem?_toArray, List.getElem?_cons_zero, List.getElem?_cons_succ, Option.some.injEq] at hs
 obtain ⟨e0, e1, e2, e3, e10, e12, e13, e14, e15⟩ := hs
 simp only [e0, e1, e2, e3, e10, e12, e13, e14, e15]
 clear e0 e1 e2 e3 e10 e12 e13 e14 e15
 revert hk
 generalize restS12 = rr
 generalize hcc : cL1 = cc
 rw [show Item.code cc = Item.code cL1 by rw [hcc]]
 intro hk
 simp only [cL1, restS5, restS1, bodyS, Tryd.f12, Option.getD_some]
 generalize hm : ls.length = n at *
 have hd : decide ((i : Int) < (n : Int)) = false := by simp; omega
 have hd2 : ¬ i < n := by omega
 repeat (first
   | refine gw_seq ?_
   | refine gw_skip ?_
   | refine gw_block ?_
   | refine gw_loop ?_
   | refine gw_inLoop ?_
   | refine gw_inBlock ?_
   | refine gw_region_end ?_
   | refine gw_label ?_
   | refine gw_ret ?_
   | (refine gw_region ?_; simp only [List.size_toArray, List.length_cons, List.length_nil, Nat.reduceAdd, Nat.zero_add, List.range, List.range.loop])
   | refine gw_exit rfl ?_
   | refine gw_yes rfl ?_
   | refine gw_no rfl ?_
   | (refine gw_op rfl rfl (by k_ne) (fun wq rq iq Kq hKq => ?_)
      go_simp
      refine hKq _ ?_ ?_
      · intro eq heq
        have hmq := mem_listed heq
        simp [go_sem, *] at hmq
      clear hKq Kq rq iq wq
      try w_num)
   | (refine gw_unwanted rfl rfl ?_; walk_nrm)
   | (refine gw_defer rfl rfl (by k_ne) rfl ?_; walk_nrm))
 subst hm
 exact hk _ ⟨rfl, rfl, rfl, rfl, rfl, rfl, rfl, rfl, rfl, rfl⟩
end
end Go.Proofs.YtajnfkmkombajabDoor
namespace Go.Proofs.YtajnfkmkombajabDoor
open Go Go.Conc Go.ConcN Go.RowKit Go.Conc.Lib Go.ConcR.Gen Go.ConcN.Gen
section
variable {n0 : Nat} {A : Nat → Addr} {W0 : World} {aw av : Option Addr} {cw cv : Nat} {sd : Nat} {cy wk : Int} {zs ls : List Int} {X0 X1 : Value} {Bf : Nat}
def FirstF (zs : List Int) (cy : Int) (ls : List Int) (f : Nat × Int) : Prop :=
 (f = (0, -1) ∧ ∀ i, i < ls.length → (bakerF zs cy (ls.getD i 0) 0).1 = 0) ∨ ∃ i, i < ls.length ∧ (∀ j, j < i → (bakerF zs cy (ls.getD j 0) 0).1 = 0) ∧ (bakerF zs cy (ls.getD i 0) 0).1 ≠ 0 ∧ f = ((bakerF zs cy (ls.getD i 0) 0).1, (i : Int))
theorem argRow_keep {S M : Nat → Prop} {W W1 : World} {ao : Option Addr} {cap : Nat} {xs : List Int} (h : ArgRow n0 W ao cap xs) (hn : n0 ≤ W.heap.size) (hb : n0 ≤ Bf) (r : RelyS (fun x => S x ∧ x ≠ Bf) (fun x => M x ∧ x ≠ Bf) W W1) (hS : ∀ b, b < n0 → S b ∨ M b) : ArgRow n0 W1 ao cap xs :=
 h.rely hn r fun b q => (hS b q).imp (fun p => ⟨p, by omega⟩) fun p => ⟨p, by omega⟩
theorem loop1_done {S M : Nat → Prop} {W : World} {Stop : Goroutine → World → (Nat → Prop) → Prop} {T : Array Value} {i : Nat} {fc : Nat} {fi : Int} (hK : (Kn aw cw zs sd cy av cv ls X0 X1 Bf i T)) (hn : ls.length < 1000000) (hc : ls.length ≤ i ∨ fc ≠ 0) (mf : M Bf) (hf : W.heap[Bf]? = some (.cells #[.int .i64 (fc : Int), .int .i64 fi] 72 (0, 0)))
   (hk : ∀ T1 : Array Value, (Kn aw cw zs sd cy av cv ls X0 X1 Bf i T1) → GoesW Tryd.prog true (fun _ => True) S Stop (G ((base 12).at ⟨T1, []⟩ [.code restS12]) []) W M) :
   GoesW Tryd.prog true (fun _ => True) S Stop (G ((base 12).at ⟨T, []⟩ [.code cL1, .inLoop cL1, .inBlock 0, .code restS12]) []) W M := by
 rcases Nat.lt_or_ge i ls.length with q | q
 · exact loop1_exit2 hK hn q (hc.resolve_left (by omega)) mf hf hk
 · exact loop1_exit1 hK hn q hk
theorem loop1_all {S : Nat → Prop} {Stop : Goroutine → World → (Nat → Prop) → Prop} (hn : ls.length < 1000000) (hsd : sd < 18446744073709551616) (hbf : n0 ≤ Bf) (hg : Tryd.prog.globals.size ≤ n0) :
   ∀ (m i : Nat) (T : Array Value) (W : World) (M : Nat → Prop), i + m = ls.length → (Kn aw cw zs sd cy av cv ls X0 X1 Bf i T) → (∀ b, b < n0 → S b ∨ M b) → (∀ b, M b → b < W.heap.size) → n0 ≤ W.heap.size → ArgRow n0 W aw cw zs → ArgRow n0 W av cv ls → (∀ j, j < i → (bakerF zs cy (ls.getD j 0) 0).1 = 0) →
     M Bf → W.heap[Bf]? = some (.cells #[.int .i64 0, .int .i64 (-1)] 72 (0, 0)) →
     (∀ (T1 : Array Value) (W1 : World) (M1 : Nat → Prop) (i : Nat) (f : Nat × Int), (Kn aw cw zs sd cy av cv ls X0 X1 Bf i T1) → (∀ b, M b → M1 b) → (∀ b, M1 b → b < W1.heap.size) → RelyS (fun x => S x ∧ x ≠ Bf) (fun x => M x ∧ x ≠ Bf) W W1 → W1.heap[Bf]? = some (.cells #[.int .i64 (f.1 : Int), .int .i64 f.2] 72 (0, 0)) → FirstF zs cy ls f → GoesW Tryd.prog true (fun _ => True) S Stop (G ((base 12).at ⟨T1, []⟩ [.code restS12]) []) W1 M1) →
     GoesW Tryd.prog true (fun _ => True) S Stop (G ((base 12).at ⟨T, []⟩ [.code cL1, .inLoop cL1, .inBlock 0, .code restS12]) []) W M := by
 intro m
 induction m with
 | zero =>
   intro i T W M hi hK hS hM hsz hw hv hz mf hf hk
   refine loop1_done (fc := 0) hK hn (.inl (by omega)) mf hf fun T1 hK1 => hk T1 W M i (0, -1) hK1 (fun b q => q) hM (RelyS.refl _ _ _) hf (.inl ⟨rfl, fun j hj => hz j (by omega)⟩)
 | succ m ih =>
   intro i T W M hi hK hS hM hsz hw hv hz mf hf hk
   by_cases hb : (bakerF zs cy (ls.getD i 0) 0).1 = 0
   · refine loop1_good hK hn (by omega) hsd hS hM hsz (Nat.le_trans hg hsz) hw hv hb mf hf fun T1 W1 M1 hK1 hMM hM1 q hf1 => ?_
     refine ih (i + 1) T1 W1 M1 (by omega) hK1 (fun b p => (hS b p).imp (fun p => p) (hMM b)) hM1 (Nat.le_trans hsz q.size) (argRow_keep hw hsz hbf q hS) (argRow_keep hv hsz hbf q hS) (fun j hj => ?_) (hMM _ mf) hf1 fun T2 W2 M2 k f hK2 hMM2 hM2 q2 hf2 hF => ?_
     · rcases Nat.lt_or_ge j i with p | p
       · exact hz j p
       · rw [show j = i by omega]; exact hb
     · exact hk T2 W2 M2 k f hK2 (fun b p => hMM2 b (hMM b p)) hM2 (q.trans (q2.mono fun b p => p.imp (fun p => p) fun p => ⟨hMM b p.1, p.2⟩)) hf2 hF
   · refine loop1_bad hK hn (by omega) hsd hS hM hsz (Nat.le_trans hg hsz) hw hv hb mf hf fun T1 W1 M1 hK1 hMM hM1 q hf1 => ?_
     refine loop1_done (fc := (bakerF zs cy (ls.getD i 0) 0).1) hK1 hn (.inr hb) (hMM _ mf) hf1 fun T2 hK2 => hk T2 W1 M1 (i + 1) ((bakerF zs cy (ls.getD i 0) 0).1, (i : Int)) hK2 hMM hM1 q hf1 (.inr ⟨i, by omega, hz, hb, rfl⟩)
end
end Go.Proofs.YtajnfkmkombajabDoor
namespace Go.Proofs.YtajnfkmkombajabDoor
open Go Go.Conc Go.ConcN Go.RowKit Go.Conc.Lib Go.ConcR.Gen Go.ConcN.Gen
theorem inits_plain : (Tryd.prog.inits.all fun f => ((Tryd.prog.funcs[f]?).map (fun fd => fd.results.size == 0)).getD true) = true := by kernel_rfl
theorem inits_none (f : FuncId) (fd : Func) (h : Tryd.prog.funcs[f]? = some fd) (q : Tryd.prog.inits.idxOf? f ≠ none) : fd.results = #[] := by
 have hm : f ∈ Tryd.prog.inits := by
   refine Classical.byContradiction fun hn => q ?_
   exact Array.idxOf?_eq_none_iff.2 hn
 have := Array.all_eq_true_iff_forall_mem.1 inits_plain f hm
 rw [h] at this
 simp only [Option.map_some, Option.getD_some, beq_iff_eq] at this
 exact Array.eq_empty_of_size_eq_zero this
def maskL (m : Value → Value) : List Bool → List Value → List Value
 | true :: bs, v :: vs => v :: maskL m bs vs
 | false :: bs, v :: vs => m v :: maskL m bs vs
 | [], vs => vs.map m
 | _ :: _, [] => []
theorem maskL_len (m : Value → Value) : ∀ bs vs, (maskL m bs vs).length = vs.length
 | true :: bs, v :: vs => by simp [maskL, maskL_len m bs vs]
 | false :: bs, v :: vs => by simp [maskL, maskL_len m bs vs]
 | [], vs => by simp [maskL]
 | b :: _, [] => by cases b <;> rfl
theorem maskL_get (m : Value → Value) : ∀ (bs : List Bool) (vs : List Value) (i : Nat) (x X : Value), (maskL m bs vs)[i]? = some x → vs[i]? = some X → (bs[i]? = some true ∧ x = X) ∨ x = m X
 | true :: bs, v :: vs, 0, x, X, h1, h2 => by simp only [maskL, List.getElem?_cons_zero, Option.some.injEq] at h1 h2; exact .inl ⟨rfl, by rw [← h1, ← h2]⟩
 | false :: bs, v :: vs, 0, x, X, h1, h2 => by simp only [maskL, List.getElem?_cons_zero, Option.some.injEq] at h1 h2; exact .inr (by rw [← h1, ← h2])
 | true :: bs, v :: vs, i + 1, x, X, h1, h2 => by
   simp only [maskL, List.getElem?_cons_succ] at h1 h2
   exact (maskL_get m bs vs i x X h1 h2).imp (fun q => ⟨by simpa using q.1, q.2⟩) fun q => q
 | false :: bs, v :: vs, i + 1, x, X, h1, h2 => by
   simp only [maskL, List.getElem?_cons_succ] at h1 h2
   exact (maskL_get m bs vs i x X h1 h2).imp (fun q => ⟨by simpa using q.1, q.2⟩) fun q => q
 | [], vs, i, x, X, h1, h2 => by
   simp only [maskL, List.getElem?_map, h2, Option.map_some, Option.some.injEq] at h1
   exact .inr h1.symm
 | _ :: _, [], i, x, X, h1, h2 => by simp at h2
theorem vrs_maskL {ok : Fn → Prop} {F : Foot} {bs : List Bool} {vs : List Value} (h : ∀ (k : Nat) (x : Value), bs[k]? = some true → vs[k]? = some x → F.val ok x) : VRs ok F.rho (maskL (mask ok F.rho) bs vs).toArray vs.toArray := by
 refine ⟨by simp [maskL_len], fun i x X h1 h2 => ?_⟩
 rw [List.getElem?_toArray] at h1 h2
 rcases maskL_get _ bs vs i x X h1 h2 with ⟨q, rfl⟩ | rfl
 · exact h i x q h2
 · exact mask_vr _ _ _
def rowE : Option Value → List (Nat × Nat × Nat)
 | some (.slice (some a) _ _) => [(a.block, 0, 8)]
 | _ => []
section
variable {n0 : Nat} {A : Nat → Addr} {W0 : World} {aw av : Option Addr} {cw cv : Nat} {sd : Nat} {cy wk : Int} {zs ls : List Int} {X0 X1 : Value} {Bf : Nat}
set_option maxRecDepth 100000 in
set_option maxHeartbeats 8000000 in
theorem rest_end {S M : Nat → Prop} {W : World} {T : Array Value} {i Bo : Nat} {ro : Array Value} {tr : TypeId} (hK : Kn aw cw zs sd cy av cv ls (.slice (some ⟨Bo, 0, none⟩) ls.length ls.length) .nilIface Bf i T) (hB : Below n0 W0 W) (hsz : n0 ≤ W.heap.size) (hS : ∀ b, b < n0 → S b ∨ M b) (hM : ∀ b, M b → b < W.heap.size) (hg : Tryd.prog.globals.size ≤ n0)
   (hn : ls.length < 1000000) (hsd : sd < 18446744073709551616) (hw : ArgRow n0 W aw cw zs) (hv : ArgRow n0 W av cv ls) (hz : ∀ i, i < ls.length → (bakerF zs cy (ls.getD i 0) 0).1 = 0)
   (mBo : M Bo) (hro : W.heap[Bo]? = some (.cells ro tr (0, 0))) (hrows : ∀ i, i < ls.length → ∃ v, ro[i]? = some v ∧ RowM (fun b => M b ∧ n0 ≤ b) W v (roundsV zs sd cy (ls.getD i 0) 8)) :
   GoesW Tryd.prog true (fun _ => True) S (AtEnd' Tryd.prog S fun v w => v = .bool true ∧ Below n0 W0 w) (G ((base 12).at ⟨T, []⟩ [.code restS16]) []) W M := by
 obtain ⟨hT, hs⟩ := hK
 obtain ⟨v, rfl⟩ := arr137 T hT
 clear hT
 simp only [List.getElem?_toArray, List.getElem?_cons_zero, List.getElem?_cons_succ, Option.some.injEq] at hs
 obtain ⟨e0, e1, e2, e3, e10, e12, e13, e14, e15⟩ := hs
 simp only [e0, e1, e2, e3, e10, e12]
 clear e0 e1 e2 e3 e10 e12 e13 e14 e15
 -- the footprint
 generalize hL : argE aw zs.length ++ (argE av ls.length ++ ((Bo, 0, ls.length) :: (List.range ls.length).flatMap fun i => rowE ro[i]?)) = L
 have mW : ∀ e ∈ argE aw zs.length, e ∈ L := fun e m => by rw [← hL]; exact List.mem_append_left _ m
 have mV : ∀ e ∈ argE av ls.length, e ∈ L := fun e m => by rw [← hL]; exact List.mem_append_right _ (List.mem_append_left _ m)
 have mO : (Bo, 0, ls.length) ∈ L := by rw [← hL]; exact List.mem_append_right _ (List.mem_append_right _ List.mem_cons_self)
 have hrow : ∀ i, i < ls.length → ∃ rb cp, ro[i]? = some (.slice (some ⟨rb, 0, none⟩) 8 cp) ∧ (rb, 0, 8) ∈ L ∧ M rb ∧ ∃ c t, W.heap[rb]? = some (.cells c t (0, 0)) ∧ ∀ j : Nat, j < 8 → c[j]? = some (.int .i64 (bakerV zs sd cy (ls.getD i 0) j)) := fun i hi => by
   obtain ⟨x, hx, rb, cp, rfl, h1, h2, mrb, c, t, hc, hcs⟩ := hrows i hi
   rw [roundsV_length] at hx h1 hcs
   refine ⟨rb, cp, hx, ?_, mrb.1, c, t, hc, fun j hj => ?_⟩
   · rw [← hL]
     refine List.mem_append_right _ (List.mem_append_right _ (List.mem_cons_of_mem _ (List.mem_flatMap.2 ⟨i, List.mem_range.2 hi, ?_⟩)))
     rw [hx]
     exact List.mem_singleton.2 rfl
   · rw [hcs j hj]
     simp [roundsV, List.getD_eq_getElem?_getD, List.getElem?_map, List.getElem?_range hj]
 have hcase : ∀ {b lo hi : Nat}, (b, lo, hi) ∈ L → (b, lo, hi) ∈ argE aw zs.length ∨ (b, lo, hi) ∈ argE av ls.length ∨ (b = Bo ∧ lo = 0 ∧ hi = ls.length) ∨ ∃ i rb cp, i < ls.length ∧ ro[i]? = some (.slice (some ⟨rb, 0, none⟩) 8 cp) ∧ b = rb ∧ lo = 0 ∧ hi = 8 := fun {b lo hi} m => by
   rw [← hL] at m
   rcases List.mem_append.1 m with m | m
   · exact .inl m
   rcases List.mem_append.1 m with m | m
   · exact .inr (.inl m)
   rcases List.mem_cons.1 m with m | m
   · cases m
     exact .inr (.inr (.inl ⟨rfl, rfl, rfl⟩))
   · obtain ⟨i, hi2, m⟩ := List.mem_flatMap.1 m
     have hi' := List.mem_range.1 hi2
     obtain ⟨rb, cp, hx, -⟩ := hrow i hi'
     rw [hx] at m
     have : (b, lo, hi) = (rb, 0, 8) := List.mem_singleton.1 m
     cases this
     exact .inr (.inr (.inr ⟨i, _, cp, hi', hx, rfl, rfl, rfl⟩))
 have hl : ∀ b lo hi, (b, lo, hi) ∈ L → ∃ c t f, W.heap[b]? = some (.cells c t f) ∧ ∀ (i : Nat) (v : Value), lo ≤ i → i < hi → c[i]? = some v → (footA L).val (okFn goodE) v := fun b lo hi m => by
   rcases hcase m with m | m | ⟨rfl, rfl, rfl⟩ | ⟨i, rb, cp, hi', hx, rfl, rfl, rfl⟩
   · obtain ⟨-, c, t, f, h2, h3⟩ := arg_ok (ok := okFn goodE) (l := L) hw m
     exact ⟨c, t, f, h2, h3⟩
   · obtain ⟨-, c, t, f, h2, h3⟩ := arg_ok (ok := okFn goodE) (l := L) hv m
     exact ⟨c, t, f, h2, h3⟩
   · refine ⟨ro, tr, _, hro, fun i x h1 h2 hx => ?_⟩
     obtain ⟨rb, cp, hx', mrb, -⟩ := hrow i h2
     rw [hx'] at hx
     cases hx
     exact val_slice _ _ (has_A mrb)
   · obtain ⟨rb', cp', hx', -, -, c, t, hc, hcs⟩ := hrow i hi'
     rw [hx] at hx'
     cases hx'
     refine ⟨c, t, _, hc, fun j x h1 h2 hx => ?_⟩
     rw [hcs j h2] at hx
     cases hx
     exact val_int _ _
 have hsub : ∀ b, (footA L).has b → S b ∨ M b := fun b hb => by
   obtain ⟨lo, hi, m⟩ := has_A_sub hb
   rcases hcase m with m | m | ⟨rfl, rfl, rfl⟩ | ⟨i, rb, cp, hi', hx, rfl, rfl, rfl⟩
   · exact hS b (arg_ok (ok := okFn goodE) (l := L) hw m).1
   · exact hS b (arg_ok (ok := okFn goodE) (l := L) hv m).1
   · exact .inr mBo
   · obtain ⟨rb', cp', hx', -, mrb, -⟩ := hrow i hi'
     rw [hx] at hx'
     cases hx'
     exact .inr mrb
 have hkn : ∀ (k : Nat) (x : Value), [true, true, true, true, false, false, false, false, false, false, true, false, true][k]? = some true → (.slice aw zs.length cw :: .int .u64 sd :: .int .i64 cy :: .slice av ls.length cv :: v 4 :: v 5 :: v 6 :: v 7 :: v 8 :: v 9 :: .bool false :: v 11 :: .slice (some ⟨Bo, 0, none⟩) ls.length ls.length :: v 13 :: v 14 :: v 15 :: v 16 :: v 17 :: v 18 :: v 19 :: v 20 :: v 21 :: v 22 :: v 23 :: v 24 :: v 25 :: v 26 :: v 27 :: v 28 :: v 29 :: v 30 :: v 31 :: v 32 :: v 33 :: v 34 :: v 35 :: v 36 :: v 37 :: v 38 :: v 39 :: v 40 :: v 41 :: v 42 :: v 43 :: v 44 :: v 45 :: v 46 :: v 47 :: v 48 :: v 49 :: v 50 :: v 51 :: v 52 :: v 53 :: v 54 :: v 55 :: v 56 :: v 57 :: v 58 :: v 59 :: v 60 :: v 61 :: v 62 :: v 63 :: v 64 :: v 65 :: v 66 :: v 67 :: v 68 :: v 69 :: v 70 :: v 71 :: v 72 :: v 73 :: v 74 :: v 75 :: v 76 :: v 77 :: v 78 :: v 79 :: v 80 :: v 81 :: v 82 :: v 83 :: v 84 :: v 85 :: v 86 :: v 87 :: v 88 :: v 89 :: v 90 :: v 91 :: v 92 :: v 93 :: v 94 :: v 95 :: v 96 :: v 97 :: v 98 :: v 99 :: v 100 :: v 101 :: v 102 :: v 103 :: v 104 :: v 105 :: v 106 :: v 107 :: v 108 :: v 109 :: v 110 :: v 111 :: v 112 :: v 113 :: v 114 :: v 115 :: v 116 :: v 117 :: v 118 :: v 119 :: v 120 :: v 121 :: v 122 :: v 123 :: v 124 :: v 125 :: v 126 :: v 127 :: v 128 :: v 129 :: v 130 :: v 131 :: v 132 :: v 133 :: v 134 :: v 135 :: v 136 :: [])[k]? = some x → (footA L).val (okFn goodE) x := fun k x h1 h2 => by
   rcases k with _ | _ | _ | _ | _ | _ | _ | _ | _ | _ | _ | _ | _ | k
   all_goals first
     | (simp only [List.getElem?_cons_zero, List.getElem?_cons_succ, List.getElem?_nil, Option.some.injEq, reduceCtorEq] at h1; done)
     | (simp only [List.getElem?_cons_zero, List.getElem?_cons_succ, Option.some.injEq] at h2
        subst h2
        first | exact arg_val hw mW _ _ | exact arg_val hv mV _ _ | exact val_int _ _ | exact .bool _ | exact val_slice _ _ (has_A mO))
 refine gw_lone_end (F := footA L) (eq := false) (fr0 := (base 12).at ⟨(maskL (mask (okFn goodE) (footA L).rho) [true, true, true, true, false, false, false, false, false, false, true, false, true] (.slice aw zs.length cw :: .int .u64 sd :: .int .i64 cy :: .slice av ls.length cv :: v 4 :: v 5 :: v 6 :: v 7 :: v 8 :: v 9 :: .bool false :: v 11 :: .slice (some ⟨Bo, 0, none⟩) ls.length ls.length :: v 13 :: v 14 :: v 15 :: v 16 :: v 17 :: v 18 :: v 19 :: v 20 :: v 21 :: v 22 :: v 23 :: v 24 :: v 25 :: v 26 :: v 27 :: v 28 :: v 29 :: v 30 :: v 31 :: v 32 :: v 33 :: v 34 :: v 35 :: v 36 :: v 37 :: v 38 :: v 39 :: v 40 :: v 41 :: v 42 :: v 43 :: v 44 :: v 45 :: v 46 :: v 47 :: v 48 :: v 49 :: v 50 :: v 51 :: v 52 :: v 53 :: v 54 :: v 55 :: v 56 :: v 57 :: v 58 :: v 59 :: v 60 :: v 61 :: v 62 :: v 63 :: v 64 :: v 65 :: v 66 :: v 67 :: v 68 :: v 69 :: v 70 :: v 71 :: v 72 :: v 73 :: v 74 :: v 75 :: v 76 :: v 77 :: v 78 :: v 79 :: v 80 :: v 81 :: v 82 :: v 83 :: v 84 :: v 85 :: v 86 :: v 87 :: v 88 :: v 89 :: v 90 :: v 91 :: v 92 :: v 93 :: v 94 :: v 95 :: v 96 :: v 97 :: v 98 :: v 99 :: v 100 :: v 101 :: v 102 :: v 103 :: v 104 :: v 105 :: v 106 :: v 107 :: v 108 :: v 109 :: v 110 :: v 111 :: v 112 :: v 113 :: v 114 :: v 115 :: v 116 :: v 117 :: v 118 :: v 119 :: v 120 :: v 121 :: v 122 :: v 123 :: v 124 :: v 125 :: v 126 :: v 127 :: v 128 :: v 129 :: v 130 :: v 131 :: v 132 :: v 133 :: v 134 :: v 135 :: v 136 :: [])).toArray, []⟩ [.code restS16]) (Post := fun v _ => v = .bool true) goodPE (fun q => by cases q) (fun g q => by cases q) (foot_okA (Nat.le_trans hg hsz) hl) hsub hM ?_ inits_none (fun v w hv q => by rw [hv] at q; cases q) (fun τ => callsFrom_of_wp Tryd.func12 ?_) ?_
 · refine FrA.mk ⟨_, Tryd.func12⟩ (vrs_maskL hkn) (fun it hi => ?_) (.inl rfl)
   rw [List.mem_singleton.1 hi]
   kernel_rfl
 · have hx := side_rest (cv := cv) (cy := cy) (ls := ls) Bo { loneW (okFn goodE) (footA L) W with tape := τ } hsd hn (by have := rd_lone (ok := okFn goodE) hw (l := L) mW; exact ⟨this.size, this.lc, this.cm, this.nul, this.cells⟩) (av := av) (by have := rd_lone (ok := okFn goodE) hv (l := L) mV; exact ⟨this.size, this.lc, this.cm, this.nul, this.cells⟩) hz (fun i hi => by
     obtain ⟨rb, cp, hx, mrb, -, c, t, hc, hcs⟩ := hrow i hi
     refine ⟨rb, cp, cell_A mO (Nat.zero_le _) hi (by rw [at_cell hro]; exact hx), fun j hj => cell_A mrb (Nat.zero_le _) hj (by rw [at_cell hc]; exact hcs j hj)⟩) (fun k => mask (okFn goodE) (footA L).rho (v k))
   simp only [maskL, List.map_cons, List.map_nil]
   exact hx
 · intro V v w ρ W1 N hv hr he hp hN q _
   subst hp
   cases hv
   exact ⟨rfl, below_rely hB hsz q hS⟩
end
end Go.Proofs.YtajnfkmkombajabDoor
namespace Go.Proofs.YtajnfkmkombajabDoor
open Go Go.Conc Go.ConcN Go.RowKit Go.Conc.Lib Go.ConcR.Gen Go.ConcN.Gen
section
variable {n0 : Nat} {A : Nat → Addr} {W0 : World} {aw av : Option Addr} {cw cv : Nat} {sd : Nat} {cy wk : Int} {zs ls : List Int} {X0 X1 : Value} {Bf : Nat} {o1 o2 : Option Addr} {c1 c2 : Nat}
set_option maxRecDepth 100000 in
set_option maxHeartbeats 8000000 in
theorem side_mid {S M : Nat → Prop} {W : World} {Stop : Goroutine → World → (Nat → Prop) → Prop} (hM : ∀ b, M b → b < W.heap.size) (hg : Tryd.prog.globals.size ≤ W.heap.size)
   (hk : ∀ (T : Array Value) (W1 : World) (M1 : Nat → Prop) (Bf : Nat), (Kn aw cw zs sd cy av cv ls X0 X1 Bf 0 T) → M1 Bf → W.heap.size ≤ Bf → W1.heap[Bf]? = some (.cells #[.int .i64 (wfC wk (ls.length : Int) : Int), .int .i64 (-1)] 72 (0, 0)) → (∀ b, M b → M1 b) → (∀ b, M1 b → b < W1.heap.size) → RelyS S M W W1 →
     GoesW Tryd.prog true (fun _ => True) S Stop (G ((base 12).at ⟨T, []⟩ [.code cL1, .inLoop cL1, .inBlock 0, .code restS12]) []) W1 M1) :
   GoesW Tryd.prog true (fun _ => True) S Stop (G ((frS4 aw cw zs sd cy av cv ls wk o1 c1 o2 c2).finish (.tuple #[X0, X1])) []) W M := by
 unfold frS4
 rw [Frame.finish_at, restS5_eq]
 revert hk
 generalize restS12 = rr
 generalize cL1 = cc
 intro hk
 simp only [rgS4, rgS5, rgS6, restS5, restS1, bodyS, Tryd.f12, Option.getD_some]
 walk_nrm
 generalize hm : (ls.length : Int) = mi at *
 repeat (first
   | refine gw_seq ?_
   | refine gw_skip ?_
   | refine gw_block ?_
   | refine gw_loop ?_
   | refine gw_inLoop ?_
   | refine gw_inBlock ?_
   | refine gw_region_end ?_
   | refine gw_label ?_
   | refine gw_ret ?_
   | (refine gw_region ?_; simp only [List.size_toArray, List.length_cons, List.length_nil, Nat.reduceAdd, Nat.zero_add, List.range, List.range.loop])
   | refine gw_exit rfl ?_
   | refine gw_yes rfl ?_
   | refine gw_no rfl ?_
   | (refine gw_op rfl rfl (by k_ne) (fun wq rq iq Kq hKq => ?_)
      go_simp
      refine hKq _ ?_ ?_
      · intro eq heq
        have hmq := mem_listed heq
        simp [go_sem, *] at hmq
      clear hKq Kq rq iq wq
      try w_num)
   | (refine gw_unwanted rfl rfl ?_; walk_nrm)
   | (refine gw_defer rfl rfl (by k_ne) rfl ?_; walk_nrm))
 refine gw_callE (x := #[.int .i64 wk, .int .i64 mi]) rfl rfl (by k_ne) rfl Tryd.func100 (by kernel_rfl) rfl (by walk_nrm) ?_
 refine gw_lone (F := footA []) (eq := false) (Post := fun v _ => v = .agg #[.int .i64 (wfC wk mi : Int), .int .i64 (-1)]) goodPE (fun q => by cases q) (fun g q => by cases q) (foot_okA hg fun b lo hi m => by cases m) (fun b q => by obtain ⟨_, _, m⟩ := has_A_sub q; cases m) hM
   (fr_enter goodPE (by kernel_rfl) ⟨_, _, Tryd.func100, rfl⟩ fun v hv => ?_) (fun τ => callsFrom_of (Calls.mono (law3_workersFault wk mi { loneW (okFn goodE) (footA []) W with tape := τ }) ?_)) ?_
 · simp only [List.mem_toArray, List.mem_cons, List.not_mem_nil, or_false] at hv
   rcases hv with rfl | rfl
   · exact val_int _ _
   · exact val_int _ _
 · rintro e w' ⟨rfl, -⟩
   exact ⟨_, rfl, rfl⟩
 intro V v w ρ W1 N hv hr he hp hN q1 _
 subst hp
 have hV : V = .agg #[.int .i64 (wfC wk mi : Int), .int .i64 (-1)] := by
   cases hv with
   | agg hs2 hx2 =>
     obtain ⟨Y0, Y1, rfl, y0, y1⟩ := VRs.at2 ⟨hs2, hx2⟩
     cases y0
     cases y1
     rfl
 subst hV
 clear hv hr he
 rw [Frame.finish_at]
 generalize (wfC wk mi : Int) = fc at *
 walk_nrm
 refine gw_push (v := fun B => .pointer (some ⟨B, 0, none⟩)) (ob := .cells #[.int .i64 0, .int .i64 0] 72 (0, 0)) rfl rfl (by k_ne) (fun w _ _ => by go_simp) (fun w _ _ e he => by have hm := mem_listed he; simp [go_sem] at hm) (fun W2 B r2 l2 g2 x2 => ?_)
 walk_nrm
 refine gw_store (g := B) (off := 0) (v := .agg #[.int .i64 fc, .int .i64 (-1)]) (cur := #[.int .i64 0, .int .i64 0]) rfl rfl (by k_ne) rfl rfl rfl ?_ (.inr rfl) g2 x2 (by simp [Value.cells]) ?_ (fun W3 r3 x3 => ?_)
 · simp only [Value.cells]; kernel_rfl
 · simp [Value.cells, Value.oneCell']
 simp only [Value.cells, List.take_zero, List.nil_append, List.size_toArray, List.length_cons, List.length_nil, Nat.reduceAdd, Nat.zero_add, List.drop_succ_cons, List.drop_nil, List.drop_zero, List.append_nil, Array.toArray_toList] at x3
 walk_nrm
 repeat (first
   | refine gw_seq ?_
   | refine gw_skip ?_
   | refine gw_block ?_
   | refine gw_loop ?_
   | refine gw_inLoop ?_
   | refine gw_inBlock ?_
   | refine gw_region_end ?_
   | refine gw_label ?_
   | refine gw_ret ?_
   | (refine gw_region ?_; simp only [List.size_toArray, List.length_cons, List.length_nil, Nat.reduceAdd, Nat.zero_add, List.range, List.range.loop])
   | refine gw_exit rfl ?_
   | refine gw_yes rfl ?_
   | refine gw_no rfl ?_
   | (refine gw_op rfl rfl (by k_ne) (fun wq rq iq Kq hKq => ?_)
      go_simp
      refine hKq _ ?_ ?_
      · intro eq heq
        have hmq := mem_listed heq
        simp [go_sem, *] at hmq
      clear hKq Kq rq iq wq
      try w_num)
   | (refine gw_unwanted rfl rfl ?_; walk_nrm)
   | (refine gw_defer rfl rfl (by k_ne) rfl ?_; walk_nrm))
 subst hm
 have s1 := q1.size
 have s3 := r3.size
 refine hk _ W3 _ B ⟨rfl, rfl, rfl, rfl, rfl, rfl, rfl, rfl, rfl, rfl⟩ (.inr rfl) (by omega) x3 (fun b q => .inl (.inl q)) (fun b q => ?_) (q1.trans (rely_fresh' (M := M) (r2.mono fun b q => q.imp (fun q => q) .inl) l2 (fun b q => .inl (.inl q)) r3))
 rcases q with (q | q) | q
 · have := hM b q; have := r2.size; omega
 · have := (hN b q).2; have := r2.size; omega
 · omega
end
end Go.Proofs.YtajnfkmkombajabDoor
