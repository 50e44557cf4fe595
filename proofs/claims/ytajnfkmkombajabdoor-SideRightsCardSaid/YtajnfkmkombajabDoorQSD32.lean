/-
  Functions that look at the numbers of an argument's row, in company: OwnInts, BakerOf.
  SideRights behind abreast: to its return, or to its call of side.Rights.
  Contract of the law's workersFault.
-/
import Derived.Test.YtajnfkmkombajabDoorQSD29
import Derived.Test.YtajnfkmkombajabDoorQSD27
import Derived.Test.YtajnfkmkombajabDoorQSD31
set_option linter.unusedVariables false
set_option linter.unusedSimpArgs false
namespace Go.Proofs.YtajnfkmkombajabDoor
open Go Go.Conc Go.ConcN Go.RowKit
structure ArgRow (n0 : Nat) (W : World) (ao : Option Addr) (cap : Nat) (zs : List Int) : Prop where
 rd : RdI .i64 W ao zs.length cap zs
 blk : ∀ x, ao = some x → x.block < n0 ∧ ∃ c t f, W.heap[x.block]? = some (.cells c t f)
def argK (l : List (Nat × Nat × Nat)) (b : Nat) : FKind := if l.any (fun e => e.1 == b) then .win (fun i => l.any fun e => e.1 == b && decide (e.2.1 ≤ i) && decide (i < e.2.2)) else .no
def footA (l : List (Nat × Nat × Nat)) : Foot := ⟨argK l⟩
def argE (ao : Option Addr) (n : Nat) : List (Nat × Nat × Nat) := match ao with | some a => [(a.block, a.off, a.off + n)] | none => []
section
variable {n0 : Nat} {W0 W : World} {l : List (Nat × Nat × Nat)} {ao : Option Addr} {cap : Nat} {zs : List Int} {ok : Fn → Prop}
theorem ArgRow.kept (h : ArgRow n0 W0 ao cap zs) (hb : Below n0 W0 W) : ArgRow n0 W ao cap zs := by
 refine ⟨⟨h.rd.size, h.rd.lc, h.rd.cm, h.rd.nul, fun i hi => ?_⟩, fun x hx => ?_⟩
 · obtain ⟨b, off, e, hc⟩ := h.rd.cells i hi
   have hlt := (h.blk _ e).1
   exact ⟨b, off, e, kept_cell (hb.block b hlt) hc⟩
 · obtain ⟨h1, c, t, f, h2⟩ := h.blk x hx
   exact ⟨h1, c, t, f, by rw [hb.block _ h1]; exact h2⟩
theorem ArgRow.rely {S M : Nat → Prop} {W1 : World} (h : ArgRow n0 W ao cap zs) (hn : n0 ≤ W.heap.size) (r : RelyS S M W W1) (hS : ∀ b, b < n0 → S b ∨ M b) : ArgRow n0 W1 ao cap zs := by
 refine ⟨⟨h.rd.size, h.rd.lc, h.rd.cm, h.rd.nul, fun i hi => ?_⟩, fun x hx => ?_⟩
 · obtain ⟨b, off, e, hc⟩ := h.rd.cells i hi
   have hlt := (h.blk _ e).1
   exact ⟨b, off, e, kept_cell (r.keep b (Nat.lt_of_lt_of_le hlt hn) (hS b hlt)) hc⟩
 · obtain ⟨h1, c, t, f, h2⟩ := h.blk x hx
   exact ⟨h1, c, t, f, by rw [r.keep _ (Nat.lt_of_lt_of_le h1 hn) (hS _ h1)]; exact h2⟩
theorem has_A {b lo hi : Nat} (m : (b, lo, hi) ∈ l) : (footA l).has b := by
 unfold Foot.has footA argK
 simp only
 rw [if_pos (List.any_eq_true.2 ⟨_, m, by simp⟩)]
 rfl
theorem has_A_sub {b : Nat} (h : (footA l).has b) : ∃ lo hi, (b, lo, hi) ∈ l := by
 unfold Foot.has footA argK at h
 simp only at h
 split at h
 · next q =>
   rw [List.any_eq_true] at q
   obtain ⟨⟨b', lo, hi⟩, m, e⟩ := q
   obtain rfl : b' = b := by simpa using e
   exact ⟨lo, hi, m⟩
 · cases h
theorem cell_A {b lo hi i : Nat} {v : Value} (m : (b, lo, hi) ∈ l) (h1 : lo ≤ i) (h2 : i < hi) (hv : W.cell? ⟨b, i, none⟩ = some v) : (loneW ok (footA l) W).cell? ⟨b, i, none⟩ = some v := by
 refine foot_cellP (p := fun i => l.any fun e => e.1 == b && decide (e.2.1 ≤ i) && decide (i < e.2.2)) ?_ ?_ hv
 · show argK l b = _
   unfold argK
   rw [if_pos (List.any_eq_true.2 ⟨_, m, by simp⟩)]
 · exact List.any_eq_true.2 ⟨_, m, by simp [h1, h2]⟩
theorem foot_okA (hg : Tryd.prog.globals.size ≤ W.heap.size) (hl : ∀ b lo hi, (b, lo, hi) ∈ l → ∃ c t f, W.heap[b]? = some (.cells c t f) ∧ ∀ (i : Nat) (v : Value), lo ≤ i → i < hi → c[i]? = some v → (footA l).val ok v) : FootOk Tryd.prog ok (footA l) false W := by
 refine ⟨fun b hb => ?_, hg⟩
 obtain ⟨lo, hi, m⟩ := has_A_sub hb
 obtain ⟨c, t, f, e, -⟩ := hl b lo hi m
 refine ⟨c, t, f, e, fun q => (by cases q), fun p hk i v hp hv => ?_⟩
 change argK l b = .win p at hk
 unfold argK at hk
 split at hk
 · cases hk
   rw [List.any_eq_true] at hp
   obtain ⟨⟨b', lo', hi'⟩, m', e'⟩ := hp
   simp only [Bool.and_eq_true, beq_iff_eq, decide_eq_true_eq] at e'
   obtain ⟨⟨rfl, e1⟩, e2⟩ := e'
   obtain ⟨c', t', f', e3, e4⟩ := hl _ _ _ m'
   rw [e] at e3
   cases e3
   exact e4 i v e1 e2 hv
 · cases hk
theorem rd_lone (h : ArgRow n0 W ao cap zs) (hs : ∀ e ∈ argE ao zs.length, e ∈ l) : RdI .i64 (loneW ok (footA l) W) ao zs.length cap zs := by
 refine ⟨h.rd.size, h.rd.lc, h.rd.cm, h.rd.nul, fun i hi => ?_⟩
 obtain ⟨b, off, e, hc⟩ := h.rd.cells i hi
 subst e
 exact ⟨b, off, rfl, cell_A (hs (b, off, off + zs.length) (List.mem_singleton.2 rfl)) (by omega) (by omega) hc⟩
theorem arg_ok (h : ArgRow n0 W ao cap zs) {b lo hi : Nat} (m : (b, lo, hi) ∈ argE ao zs.length) : b < n0 ∧ ∃ c t f, W.heap[b]? = some (.cells c t f) ∧ ∀ (i : Nat) (v : Value), lo ≤ i → i < hi → c[i]? = some v → (footA l).val ok v := by
 cases ao with
 | none => cases m
 | some a =>
   have : (b, lo, hi) = (a.block, a.off, a.off + zs.length) := List.mem_singleton.1 m
   cases this
   obtain ⟨h1, c, t, f, h2⟩ := h.blk a rfl
   refine ⟨h1, c, t, f, h2, fun i v q1 q2 hv => ?_⟩
   obtain ⟨b, off, e, hc⟩ := h.rd.cells (i - a.off) (by omega)
   cases e
   simp only at *
   rw [show off + (i - off) = i by omega, at_cell h2, hv] at hc
   cases hc
   exact val_int _ _
theorem arg_val (h : ArgRow n0 W ao cap zs) (hs : ∀ e ∈ argE ao zs.length, e ∈ l) (n m : Nat) : (footA l).val ok (.slice ao n m) := by
 cases ao with
 | none => exact .snil _ _
 | some a => exact val_slice _ _ (has_A (hs (a.block, a.off, a.off + zs.length) (List.mem_singleton.2 rfl)))
end
theorem row_overB {eq : Bool} {ok : Fn → Prop} {ρ : Rho} {F : Foot} {S M : Nat → Prop} {w W : World} {n0 n1 : Nat} {t : TypeId} {o : Option Addr} {cap : Nat} {V : Value} {xs : List Int} (hr : HR Tryd.prog ok (F.olds eq) S ρ M w W) (hold : ∀ b, F.has b → b < n1) (hv : VR ok ρ (.slice o xs.length cap) V) (hN : ∀ b, M b → n0 ≤ b)
   (ho : w.ownsRow n1 t 1 (.slice o xs.length cap) xs.length (xs.map (Value.int .i64))) : ∃ O, V = .slice O xs.length cap ∧ RowB n0 W O cap xs ∧ ∀ b n, (b, n) ∈ rowL O xs.length → M b := by
 obtain ⟨hlen, h⟩ := ho
 rcases h with ⟨hv0, h0⟩ | ⟨g, cap', cur, hv0, hg, hgw, h1, h2, h3, h4⟩
 · simp only [Value.slice.injEq] at hv0
   obtain ⟨rfl, -, rfl⟩ := hv0
   cases hv
   refine ⟨none, rfl, ⟨by omega, Nat.zero_le _, fun _ => rfl, fun a e => (by cases e)⟩, fun b n m => (by cases m)⟩
 · simp only [Value.slice.injEq, true_and] at hv0
   obtain ⟨rfl, rfl⟩ := hv0
   cases hv with
   | slice _ _ ha =>
     obtain ⟨B, hB, rfl⟩ := ha
     have hnew : ¬ (F.olds eq).is g := fun q => by have := hold g q; omega
     obtain ⟨o, O, ho, hO, hor⟩ := hr.obj _ _ hB
     rw [hgw] at ho
     cases ho
     have hM := hr.new _ _ hB hnew
     refine ⟨_, rfl, ⟨h1, h2, fun e => (by cases e), fun a e => ?_⟩, fun b n m => ?_⟩
     · cases e
       have key : ∀ (C : Array Value) (T : TypeId) (f : Nat × Nat), W.heap[B]? = some (.cells C T f) → (∀ (i : Nat) (u U : Value), cur[i]? = some u → C[i]? = some U → VR ok ρ u U) → cur.size ≤ C.size → ∃ c t, W.heap[B]? = some (.cells c t (0, 0)) ∧ ∀ i, i < xs.length → c[i]? = some (.int .i64 (xs.getD i 0)) := by
         intro C T f hW hc hsz
         have hf := hr.tight _ _ hB (.inr hnew) _ _ _ hW
         subst hf
         refine ⟨C, T, hW, fun i hi => ?_⟩
         have hcur : cur[i]? = some (.int .i64 (xs.getD i 0)) := by
           have e : (cur.toList.take (xs.length * 1))[i]? = (xs.map (Value.int .i64))[i]? := by rw [h4]
           rw [List.getElem?_take, if_pos (by omega), List.getElem?_map, Array.getElem?_toList] at e
           rw [e]
           simp [List.getD_eq_getElem?_getD, List.getElem?_eq_getElem hi]
         have hci := (Array.getElem?_eq_some_iff.1 hcur).1
         obtain ⟨U, hU⟩ : ∃ U, C[i]? = some U := ⟨_, Array.getElem?_eq_getElem (Nat.lt_of_lt_of_le hci hsz)⟩
         have hvr := hc i _ _ hcur hU
         rw [hU]
         cases hvr
         rfl
       refine ⟨rfl, rfl, hN _ hM, ?_⟩
       cases hor with
       | cells _ hcs _ => exact key _ _ _ hO hcs.2 (Nat.le_of_eq hcs.1)
       | pre _ hs hx _ => exact key _ _ _ hO hx hs
     · have : (b, n) = (B, xs.length) := List.mem_singleton.1 m
       cases this
       exact hM
section
variable {n0 : Nat} {S M : Nat → Prop} {W : World} {aw : Option Addr} {cw : Nat} {zs : List Int} {C : Frame} {Cs : List Frame} {Stop : Goroutine → World → (Nat → Prop) → Prop} {mn : Bool}
theorem gw_ownInts (hR : ArgRow n0 W aw cw zs) (hS : ∀ b, b < n0 → S b ∨ M b) (hM : ∀ b, M b → b < W.heap.size) (hn0 : n0 ≤ W.heap.size) (hg : Tryd.prog.globals.size ≤ W.heap.size) (hb : zs.length * 8 ≤ 140737488355328)
   (hk : ∀ (o : Option Addr) (cap : Nat) (W1 : World) (N : Nat → Prop), (∀ b, N b → W.heap.size ≤ b ∧ b < W1.heap.size) → RelyS S M W W1 → RowB n0 W1 o cap zs → (∀ b n, (b, n) ∈ rowL o zs.length → N b) → GoesW Tryd.prog mn (fun _ => True) S Stop (G (C.finish (.slice o zs.length cap)) Cs) W1 (fun b => M b ∨ N b)) :
   GoesW Tryd.prog mn (fun _ => True) S Stop (G (Frame.enter Tryd.prog 44 #[.slice aw zs.length cw] .normal) (C :: Cs)) W M := by
 have hhas : ∀ b, (footA (argE aw zs.length)).has b → b < n0 := fun b hb => by
   obtain ⟨lo, hi, m⟩ := has_A_sub hb
   exact (arg_ok (ok := okFn goodE) (l := argE aw zs.length) hR m).1
 refine gw_lone (F := footA (argE aw zs.length)) (eq := false) (Post := fun v w' => ∃ o cap, v = .slice o zs.length cap ∧ w'.ownsRow W.heap.size 3 1 (.slice o zs.length cap) zs.length (zs.map (Value.int .i64))) goodPE (fun q => by cases q) (fun g q => by cases q) (foot_okA hg fun b lo hi m => (arg_ok hR m).2) (fun b q => hS b (hhas b q)) hM
   (fr_enter goodPE (by kernel_rfl) ⟨_, _, Tryd.func44, rfl⟩ fun v hv => ?_) (fun τ => callsFrom_of (Calls.mono (law_OwnInts aw zs.length cw zs { loneW (okFn goodE) (footA (argE aw zs.length)) W with tape := τ } ?_ hb) ?_)) ?_
 · obtain rfl : v = .slice aw zs.length cw := by simpa using hv
   exact arg_val hR (fun e he => he) _ _
 · have := rd_lone (ok := okFn goodE) hR (l := argE aw zs.length) fun e he => he
   exact ⟨this.size, this.lc, this.cm, this.nul, this.cells⟩
 · rintro e w' ⟨o, cap, rfl, h, -⟩
   refine ⟨_, rfl, o, cap, rfl, ?_⟩
   have hsz : (loneW (okFn goodE) (footA (argE aw zs.length)) W).heap.size = W.heap.size := loneW_size
   have h' : w'.ownsRow (loneW (okFn goodE) (footA (argE aw zs.length)) W).heap.size 3 1 (.slice o zs.length cap) zs.length (zs.map (Value.int .i64)) := h
   rw [hsz] at h'
   exact h'
 · intro V v w ρ W1 N hv hr he hp hN hrel _
   obtain ⟨o, cap, rfl, ho⟩ := hp
   obtain ⟨O, rfl, h1, h2⟩ := row_overB (n0 := n0) hr (fun b hb => by have := hhas b hb; omega) hv (fun b q => by have := (hN b q).1; omega) ho
   exact hk O cap W1 N hN hrel h1 h2
theorem gw_bakerOf (hR : ArgRow n0 W aw cw zs) (hS : ∀ b, b < n0 → S b ∨ M b) (hM : ∀ b, M b → b < W.heap.size) (hg : Tryd.prog.globals.size ≤ W.heap.size) {s : Nat} (hs : s < 18446744073709551616) (c l r : Int)
   (hk : ∀ (W1 : World) (N : Nat → Prop), (∀ b, N b → W.heap.size ≤ b ∧ b < W1.heap.size) → RelyS S M W W1 → GoesW Tryd.prog mn (fun _ => True) S Stop (G (C.finish (.tuple #[.int .i64 (if (bakerF zs c l r).1 = 0 then bakerV zs s c l r else 0), .agg #[.int .i64 (bakerF zs c l r).1, .int .i64 (bakerF zs c l r).2]])) Cs) W1 (fun b => M b ∨ N b)) :
   GoesW Tryd.prog mn (fun _ => True) S Stop (G (Frame.enter Tryd.prog 65 #[.slice aw zs.length cw, .int .u64 s, .int .i64 c, .int .i64 l, .int .i64 r] .normal) (C :: Cs)) W M := by
 have hhas : ∀ b, (footA (argE aw zs.length)).has b → b < n0 := fun b hb => by
   obtain ⟨lo, hi, m⟩ := has_A_sub hb
   exact (arg_ok (ok := okFn goodE) (l := argE aw zs.length) hR m).1
 refine gw_lone (F := footA (argE aw zs.length)) (eq := false) (Post := fun v _ => v = .tuple #[.int .i64 (if (bakerF zs c l r).1 = 0 then bakerV zs s c l r else 0), .agg #[.int .i64 (bakerF zs c l r).1, .int .i64 (bakerF zs c l r).2]]) goodPE (fun q => by cases q) (fun g q => by cases q) (foot_okA hg fun b lo hi m => (arg_ok hR m).2) (fun b q => hS b (hhas b q)) hM
   (fr_enter goodPE (by kernel_rfl) ⟨_, _, Tryd.func65, rfl⟩ fun v hv => ?_) (fun τ => callsFrom_of (Calls.mono (ref_BakerOf aw cw zs s hs c l r { loneW (okFn goodE) (footA (argE aw zs.length)) W with tape := τ } ?_) ?_)) ?_
 · simp only [List.mem_toArray, List.mem_cons, List.not_mem_nil, or_false] at hv
   rcases hv with rfl | rfl | rfl | rfl | rfl
   · exact arg_val hR (fun e he => he) _ _
   all_goals exact val_int _ _
 · have := rd_lone (ok := okFn goodE) hR (l := argE aw zs.length) fun e he => he
   exact ⟨this.size, this.lc, this.cm, this.nul, this.cells⟩
 · rintro e w' ⟨rfl, -⟩
   exact ⟨_, rfl, rfl⟩
 · intro V v w ρ W1 N hv hr he hp hN hrel _
   subst hp
   cases hv with
   | tuple hs hx =>
     obtain ⟨X0, X1, rfl, x0, x1⟩ := VRs.at2 ⟨hs, hx⟩
     cases x0
     cases x1 with
     | agg hs2 hx2 =>
       obtain ⟨Y0, Y1, rfl, y0, y1⟩ := VRs.at2 ⟨hs2, hx2⟩
       cases y0
       cases y1
       exact hk W1 N hN hrel
end
end Go.Proofs.YtajnfkmkombajabDoor
namespace Go.Proofs.YtajnfkmkombajabDoor
open Go Go.Conc Go.ConcN Go.RowKit Go.Conc.Lib Go.ConcR.Gen Go.ConcN.Gen
noncomputable def rgS4 : Array Oper := match restS1 with | .seq _ (.seq (.region _ ops _) _) => ops | _ => #[]
noncomputable def restS5 : Code := match restS1 with | .seq _ (.seq _ c) => c | _ => .skip
noncomputable def codeS2 : Code := match restS1 with | .seq c _ => c | _ => .skip
theorem restS1_eq : restS1 = .seq codeS2 (.seq (.region 4 rgS4 false) restS5) := rfl
section
variable {n0 : Nat} {A : Nat → Addr} {W0 : World} {aw av : Option Addr} {cw cv : Nat} {sd : Nat} {cy wk : Int} {zs ls : List Int} {nw nv : Nat}
noncomputable def frS4 (aw : Option Addr) (cw : Nat) (zs : List Int) (sd : Nat) (cy : Int) (av : Option Addr) (cv : Nat) (ls : List Int) (wk : Int) (o1 : Option Addr) (c1 : Nat) (o2 : Option Addr) (c2 : Nat) : Frame := (base 12).at ⟨(List.toArray (.slice aw zs.length cw :: .int .u64 sd :: .int .i64 cy :: .slice av ls.length cv :: .int .i64 wk :: undef :: undef :: undef :: undef :: undef :: .bool false :: .bool true :: undef :: undef :: undef :: undef :: undef :: undef :: undef :: undef :: undef :: undef :: .bool true :: .bool true :: .bool false :: .bool false :: .slice aw zs.length cw :: .int .i64 (zs.length : Int) :: .bool false :: .bool false :: .bool false :: .slice av ls.length cv :: .int .i64 (ls.length : Int) :: .bool false :: .bool false :: undef :: undef :: .slice aw zs.length cw :: .slice o1 zs.length c1 :: .int .u64 sd :: .int .i64 cy :: .slice av ls.length cv :: .slice o2 ls.length c2 :: .int .i64 wk :: undef :: undef :: undef :: undef :: undef :: undef :: undef :: undef :: undef :: undef :: undef :: undef :: undef :: undef :: undef :: undef :: undef :: undef :: undef :: undef :: undef :: undef :: undef :: undef :: undef :: undef :: undef :: undef :: undef :: undef :: undef :: undef :: undef :: undef :: undef :: undef :: undef :: undef :: undef :: undef :: undef :: undef :: undef :: undef :: undef :: undef :: undef :: undef :: undef :: undef :: undef :: undef :: undef :: undef :: undef :: undef :: undef :: undef :: undef :: undef :: undef :: undef :: undef :: undef :: undef :: undef :: undef :: undef :: undef :: undef :: undef :: undef :: undef :: undef :: undef :: undef :: undef :: undef :: undef :: undef :: undef :: undef :: undef :: undef :: undef :: undef :: undef :: undef :: undef :: undef :: undef :: undef :: undef :: [])), []⟩ [.inRegion rgS4 [7, 8, 9, 10, 11, 12], .code restS5]
set_option maxRecDepth 100000 in
set_option maxHeartbeats 8000000 in
theorem side_long1 {S M : Nat → Prop} {W : World} (hB : Below n0 W0 W) (hn : n0 ≤ W.heap.size) (hS : ∀ b, b < n0 → S b ∨ M b) (h1 : decide (100 < (nw : Int)) = true) :
   GoesW Tryd.prog true (fun _ => True) S (AtEnd' Tryd.prog S fun v w => v = .bool true ∧ Below n0 W0 w) (G ((frS1 aw nw cw sd cy av nv cv wk).finish (.bool true)) []) W M := by
 unfold frS1
 rw [Frame.finish_at, restS1_eq]
 generalize restS5 = rr
 simp only [rgS1, codeS2, rgS4, restS1, bodyS, Tryd.f12, Option.getD_some]
 generalize hm : (nw : Int) = mi at h1
 walk_nrm
 repeat (first
   | refine gw_seq ?_
   | refine gw_skip ?_
   | refine gw_block ?_
   | refine gw_loop ?_
   | refine gw_inLoop ?_
   | refine gw_inBlock ?_
   | refine gw_region_end ?_
   | refine gw_label ?_
   | refine gw_ret ?_
   | (refine gw_region ?_; simp only [List.size_toArray, List.length_cons, List.length_nil, Nat.reduceAdd, Nat.zero_add, List.range, List.range.loop])
   | refine gw_exit rfl ?_
   | refine gw_yes rfl ?_
   | refine gw_no rfl ?_
   | (refine gw_op rfl rfl (by k_ne) (fun wq rq iq Kq hKq => ?_)
      go_simp
      refine hKq _ ?_ ?_
      · intro eq heq
        have hmq := mem_listed heq
        simp [go_sem, *] at hmq
      clear hKq Kq rq iq wq
      try w_num)
   | (refine gw_unwanted rfl rfl ?_; walk_nrm)
   | (refine gw_defer rfl rfl (by k_ne) rfl ?_; walk_nrm))
 exact gw_done Tryd.func12 rfl (by kernel_rfl) fun W1 r _ => ⟨rfl, below_rely hB hn r hS⟩
set_option maxRecDepth 100000 in
set_option maxHeartbeats 8000000 in
theorem side_long2 {S M : Nat → Prop} {W : World} (hB : Below n0 W0 W) (hn : n0 ≤ W.heap.size) (hS : ∀ b, b < n0 → S b ∨ M b) (h1 : decide (100 < (nw : Int)) = false) (h2 : decide (110 < (nv : Int)) = true) :
   GoesW Tryd.prog true (fun _ => True) S (AtEnd' Tryd.prog S fun v w => v = .bool true ∧ Below n0 W0 w) (G ((frS1 aw nw cw sd cy av nv cv wk).finish (.bool true)) []) W M := by
 unfold frS1
 rw [Frame.finish_at, restS1_eq]
 generalize restS5 = rr
 simp only [rgS1, codeS2, rgS4, restS1, bodyS, Tryd.f12, Option.getD_some]
 generalize hm : (nw : Int) = mi at h1
 generalize hm2 : (nv : Int) = mi2 at h2
 walk_nrm
 repeat (first
   | refine gw_seq ?_
   | refine gw_skip ?_
   | refine gw_block ?_
   | refine gw_loop ?_
   | refine gw_inLoop ?_
   | refine gw_inBlock ?_
   | refine gw_region_end ?_
   | refine gw_label ?_
   | refine gw_ret ?_
   | (refine gw_region ?_; simp only [List.size_toArray, List.length_cons, List.length_nil, Nat.reduceAdd, Nat.zero_add, List.range, List.range.loop])
   | refine gw_exit rfl ?_
   | refine gw_yes rfl ?_
   | refine gw_no rfl ?_
   | (refine gw_op rfl rfl (by k_ne) (fun wq rq iq Kq hKq => ?_)
      go_simp
      refine hKq _ ?_ ?_
      · intro eq heq
        have hmq := mem_listed heq
        simp [go_sem, *] at hmq
      clear hKq Kq rq iq wq
      try w_num)
   | (refine gw_unwanted rfl rfl ?_; walk_nrm)
   | (refine gw_defer rfl rfl (by k_ne) rfl ?_; walk_nrm))
 exact gw_done Tryd.func12 rfl (by kernel_rfl) fun W1 r _ => ⟨rfl, below_rely hB hn r hS⟩
set_option maxRecDepth 100000 in
set_option maxHeartbeats 8000000 in
theorem side_short {S M : Nat → Prop} {W : World} {Stop : Goroutine → World → (Nat → Prop) → Prop} (hI : Init n0 A W) (hB : Below n0 W0 W) (hS : ∀ b, b < n0 → S b ∨ M b) (hM : ∀ b, M b → b < W.heap.size) (h1 : decide (100 < (zs.length : Int)) = false) (h2 : decide (110 < (ls.length : Int)) = false)
   (hw : ArgRow n0 W aw cw zs) (hv : ArgRow n0 W av cv ls) (hg : Tryd.prog.globals.size ≤ n0)
   (hk : ∀ (o1 : Option Addr) (c1 : Nat) (o2 : Option Addr) (c2 : Nat) (W2 : World) (M2 : Nat → Prop), (∀ b, M b → M2 b) → (∀ b, M2 b → b < W2.heap.size) → RelyS S M W W2 → RowB n0 W2 o1 c1 zs → RowB n0 W2 o2 c2 ls → (∀ b n, (b, n) ∈ rowL o1 zs.length → M2 b) → (∀ b n, (b, n) ∈ rowL o2 ls.length → M2 b) →
     GoesW Tryd.prog true (fun _ => True) S Stop (G (Frame.enter Tryd.prog 99 #[.slice o1 zs.length c1, .int .u64 sd, .int .i64 cy, .slice o2 ls.length c2, .int .i64 wk] .normal) [frS4 aw cw zs sd cy av cv ls wk o1 c1 o2 c2]) W2 M2) :
   GoesW Tryd.prog true (fun _ => True) S Stop (G ((frS1 aw zs.length cw sd cy av ls.length cv wk).finish (.bool true)) []) W M := by
 have e1 : zs.length * 8 ≤ 140737488355328 := by have := of_decide_eq_false h1; omega
 have e2 : ls.length * 8 ≤ 140737488355328 := by have := of_decide_eq_false h2; omega
 have hsz := hI.size
 have hk' : ∀ (o1 : Option Addr) (c1 : Nat) (o2 : Option Addr) (c2 : Nat) (W2 : World) (M2 : Nat → Prop), (∀ b, M b → M2 b) → (∀ b, M2 b → b < W2.heap.size) → RelyS S M W W2 → RowB n0 W2 o1 c1 zs → RowB n0 W2 o2 c2 ls → (∀ b n, (b, n) ∈ rowL o1 zs.length → M2 b) → (∀ b n, (b, n) ∈ rowL o2 ls.length → M2 b) →
     GoesW Tryd.prog true (fun _ => True) S Stop (G (Frame.enter Tryd.prog 99 #[.slice o1 zs.length c1, .int .u64 sd, .int .i64 cy, .slice o2 ls.length c2, .int .i64 wk] .normal) [(base 12).at ⟨(List.toArray (.slice aw zs.length cw :: .int .u64 sd :: .int .i64 cy :: .slice av ls.length cv :: .int .i64 wk :: undef :: undef :: undef :: undef :: undef :: .bool false :: .bool true :: undef :: undef :: undef :: undef :: undef :: undef :: undef :: undef :: undef :: undef :: .bool true :: .bool true :: .bool false :: .bool false :: .slice aw zs.length cw :: .int .i64 (zs.length : Int) :: .bool false :: .bool false :: .bool false :: .slice av ls.length cv :: .int .i64 (ls.length : Int) :: .bool false :: .bool false :: undef :: undef :: .slice aw zs.length cw :: .slice o1 zs.length c1 :: .int .u64 sd :: .int .i64 cy :: .slice av ls.length cv :: .slice o2 ls.length c2 :: .int .i64 wk :: undef :: undef :: undef :: undef :: undef :: undef :: undef :: undef :: undef :: undef :: undef :: undef :: undef :: undef :: undef :: undef :: undef :: undef :: undef :: undef :: undef :: undef :: undef :: undef :: undef :: undef :: undef :: undef :: undef :: undef :: undef :: undef :: undef :: undef :: undef :: undef :: undef :: undef :: undef :: undef :: undef :: undef :: undef :: undef :: undef :: undef :: undef :: undef :: undef :: undef :: undef :: undef :: undef :: undef :: undef :: undef :: undef :: undef :: undef :: undef :: undef :: undef :: undef :: undef :: undef :: undef :: undef :: undef :: undef :: undef :: undef :: undef :: undef :: undef :: undef :: undef :: undef :: undef :: undef :: undef :: undef :: undef :: undef :: undef :: undef :: undef :: undef :: undef :: undef :: undef :: undef :: undef :: undef :: [])), []⟩ [.inRegion rgS4 [7, 8, 9, 10, 11, 12], .code restS5]]) W2 M2 := hk
 clear hk
 unfold frS1
 rw [Frame.finish_at, restS1_eq]
 revert hk'
 generalize restS5 = rr
 intro hk'
 simp only [rgS1, codeS2, rgS4, restS1, bodyS, Tryd.f12, Option.getD_some] at hk' ⊢
 generalize hm : (zs.length : Int) = mi at h1
 generalize hm2 : (ls.length : Int) = mi2 at h2
 walk_nrm
 repeat (first
   | refine gw_seq ?_
   | refine gw_skip ?_
   | refine gw_block ?_
   | refine gw_loop ?_
   | refine gw_inLoop ?_
   | refine gw_inBlock ?_
   | refine gw_region_end ?_
   | refine gw_label ?_
   | refine gw_ret ?_
   | (refine gw_region ?_; simp only [List.size_toArray, List.length_cons, List.length_nil, Nat.reduceAdd, Nat.zero_add, List.range, List.range.loop])
   | refine gw_exit rfl ?_
   | refine gw_yes rfl ?_
   | refine gw_no rfl ?_
   | (refine gw_op rfl rfl (by k_ne) (fun wq rq iq Kq hKq => ?_)
      go_simp
      refine hKq _ ?_ ?_
      · intro eq heq
        have hmq := mem_listed heq
        simp [go_sem, *] at hmq
      clear hKq Kq rq iq wq
      try w_num)
   | (refine gw_unwanted rfl rfl ?_; walk_nrm)
   | (refine gw_defer rfl rfl (by k_ne) rfl ?_; walk_nrm))
 refine gw_callE (x := #[.slice aw zs.length cw]) rfl rfl (by k_ne) rfl Tryd.func44 (by kernel_rfl) rfl (by walk_nrm) ?_
 refine gw_ownInts hw hS hM hsz (Nat.le_trans hg hsz) e1 fun o1 c1 W1 N1 hN1 q1 r1 m1 => ?_
 rw [Frame.finish_at]
 walk_nrm
 repeat (first
   | refine gw_seq ?_
   | refine gw_skip ?_
   | refine gw_block ?_
   | refine gw_loop ?_
   | refine gw_inLoop ?_
   | refine gw_inBlock ?_
   | refine gw_region_end ?_
   | refine gw_label ?_
   | refine gw_ret ?_
   | (refine gw_region ?_; simp only [List.size_toArray, List.length_cons, List.length_nil, Nat.reduceAdd, Nat.zero_add, List.range, List.range.loop])
   | refine gw_exit rfl ?_
   | refine gw_yes rfl ?_
   | refine gw_no rfl ?_
   | (refine gw_op rfl rfl (by k_ne) (fun wq rq iq Kq hKq => ?_)
      go_simp
      refine hKq _ ?_ ?_
      · intro eq heq
        have hmq := mem_listed heq
        simp [go_sem, *] at hmq
      clear hKq Kq rq iq wq
      try w_num)
   | (refine gw_unwanted rfl rfl ?_; walk_nrm)
   | (refine gw_defer rfl rfl (by k_ne) rfl ?_; walk_nrm))
 have hM1 : ∀ b, (M b ∨ N1 b) → b < W1.heap.size := fun b q => q.elim (fun q => Nat.lt_of_lt_of_le (hM b q) q1.size) fun q => (hN1 b q).2
 have hS1 : ∀ b, b < n0 → S b ∨ (M b ∨ N1 b) := fun b q => (hS b q).imp (fun q => q) .inl
 have hsz1 : n0 ≤ W1.heap.size := Nat.le_trans hsz q1.size
 have hv1 : ArgRow n0 W1 av cv ls := hv.rely hsz q1 hS
 refine gw_callE (x := #[.slice av ls.length cv]) rfl rfl (by k_ne) rfl Tryd.func44 (by kernel_rfl) rfl (by walk_nrm) ?_
 refine gw_ownInts hv1 hS1 hM1 hsz1 (Nat.le_trans hg hsz1) e2 fun o2 c2 W2 N2 hN2 q2 r2 m2 => ?_
 rw [Frame.finish_at]
 walk_nrm
 repeat (first
   | refine gw_seq ?_
   | refine gw_skip ?_
   | refine gw_block ?_
   | refine gw_loop ?_
   | refine gw_inLoop ?_
   | refine gw_inBlock ?_
   | refine gw_region_end ?_
   | refine gw_label ?_
   | refine gw_ret ?_
   | (refine gw_region ?_; simp only [List.size_toArray, List.length_cons, List.length_nil, Nat.reduceAdd, Nat.zero_add, List.range, List.range.loop])
   | refine gw_exit rfl ?_
   | refine gw_yes rfl ?_
   | refine gw_no rfl ?_
   | (refine gw_op rfl rfl (by k_ne) (fun wq rq iq Kq hKq => ?_)
      go_simp
      refine hKq _ ?_ ?_
      · intro eq heq
        have hmq := mem_listed heq
        simp [go_sem, *] at hmq
      clear hKq Kq rq iq wq
      try w_num)
   | (refine gw_unwanted rfl rfl ?_; walk_nrm)
   | (refine gw_defer rfl rfl (by k_ne) rfl ?_; walk_nrm))
 subst hm
 subst hm2
 have q12 : RelyS S M W W2 := q1.trans (q2.mono fun b q => q.imp (fun q => q) .inl)
 refine gw_callE (x := #[.slice o1 zs.length c1, .int .u64 sd, .int .i64 cy, .slice o2 ls.length c2, .int .i64 wk]) rfl rfl (by k_ne) rfl Tryd.func99 (by kernel_rfl) rfl (by walk_nrm) ?_
 exact hk' o1 c1 o2 c2 W2 _ (fun b q => .inl (.inl q)) (fun b q => q.elim (fun q => Nat.lt_of_lt_of_le (hM1 b q) q2.size) fun q => (hN2 b q).2) q12 (rowB_rely r1 q2 fun b n m => .inr (.inr (m1 b n m))) r2 (fun b n m => .inl (.inr (m1 b n m))) (fun b n m => .inr (m2 b n m))
end
end Go.Proofs.YtajnfkmkombajabDoor
namespace Go.Proofs.YtajnfkmkombajabDoor
open Go.RowKit
def wfC (wk many : Int) : Nat := if wk < 1 ∨ 16 < wk then 3 else if 100 < many then 2 else 0
def WfPost (wk many : Int) (w : World) (e : Ending) (w' : World) : Prop := e = .returned (.agg #[.int .i64 (wfC wk many : Int), .int .i64 (-1)]) ∧ Below w.heap.size w w'
theorem wf_close {wk many : Int} {c : Nat} {w W : World} (h : wfC wk many = c) (hb : Below w.heap.size w W) : WfPost wk many w (.returned (.agg #[.int .i64 (c : Int), .int .i64 (-1)])) W := by
 unfold WfPost; rw [h]; exact ⟨rfl, hb⟩
set_option maxRecDepth 8000 in
theorem law3_workersFault (wk many : Int) (w : World) : Calls Tryd.prog 100 #[.int .i64 wk, .int .i64 many] w (WfPost wk many w) := by
 by_cases h1 : wk < 1
 · have d1 : decide (wk < 1) = true := decide_eq_true h1
   have HF := Lib.hid (show wfC wk many = 3 from if_pos (.inl h1))
   clear h1
   go_enter Tryd.func100, Tryd.ntmps100
   go_wp2_with (go_at_call 61; refine (ref_Bare _ _).mono ?_; rintro e w' ⟨rfl, rfl⟩)
   (try simp only [Exit.inBlock, Exit.then])
   refine bodyPost_ret (v := .agg #[.int .i64 (3), .int .i64 (-1)]) (ret_pair rfl _ _ w.heap.size _ _ _ _ _ rfl (by first | exact heap_two _ _ _ | exact heap_drewN _ _ _ | exact heap_drewN2 _ _ _ _ | exact heap_alloc_new _ _) Tryd.underlying72 rfl (by kernel_rfl)) rfl (wf_close (c := 3) HF.out (((Below.refl _ _).alloc (Nat.le_refl _) _).alloc (by simp) _))
 · by_cases h2 : 16 < wk
   · have d1 : decide (wk < 1) = false := decide_eq_false h1
     have d2 : decide (16 < wk) = true := decide_eq_true h2
     have HF := Lib.hid (show wfC wk many = 3 from if_pos (.inr h2))
     clear h1 h2
     go_enter Tryd.func100, Tryd.ntmps100
     go_wp2_with (go_at_call 61; refine (ref_Bare _ _).mono ?_; rintro e w' ⟨rfl, rfl⟩)
     (try simp only [Exit.inBlock, Exit.then])
     refine bodyPost_ret (v := .agg #[.int .i64 (3), .int .i64 (-1)]) (ret_pair rfl _ _ w.heap.size _ _ _ _ _ rfl (by first | exact heap_two _ _ _ | exact heap_drewN _ _ _ | exact heap_drewN2 _ _ _ _ | exact heap_alloc_new _ _) Tryd.underlying72 rfl (by kernel_rfl)) rfl (wf_close (c := 3) HF.out (((Below.refl _ _).alloc (Nat.le_refl _) _).alloc (by simp) _))
   · by_cases h3 : 100 < many
     · have d1 : decide (wk < 1) = false := decide_eq_false h1
       have d2 : decide (16 < wk) = false := decide_eq_false h2
       have d3 : decide (100 < many) = true := decide_eq_true h3
       have HF := Lib.hid (show wfC wk many = 2 by unfold wfC; rw [if_neg (by omega), if_pos h3])
       clear h1 h2 h3
       go_enter Tryd.func100, Tryd.ntmps100
       go_wp2_with (go_at_call 61; refine (ref_Bare _ _).mono ?_; rintro e w' ⟨rfl, rfl⟩)
       (try simp only [Exit.inBlock, Exit.then])
       refine bodyPost_ret (v := .agg #[.int .i64 (2), .int .i64 (-1)]) (ret_pair rfl _ _ w.heap.size _ _ _ _ _ rfl (by first | exact heap_two _ _ _ | exact heap_drewN _ _ _ | exact heap_drewN2 _ _ _ _ | exact heap_alloc_new _ _) Tryd.underlying72 rfl (by kernel_rfl)) rfl (wf_close (c := 2) HF.out (((Below.refl _ _).alloc (Nat.le_refl _) _).alloc (by simp) _))
     · have d1 : decide (wk < 1) = false := decide_eq_false h1
       have d2 : decide (16 < wk) = false := decide_eq_false h2
       have d3 : decide (100 < many) = false := decide_eq_false h3
       have HF := Lib.hid (show wfC wk many = 0 by unfold wfC; rw [if_neg (by omega), if_neg h3])
       clear h1 h2 h3
       go_enter Tryd.func100, Tryd.ntmps100
       go_wp2_with (go_at_call 122; refine (ref_Fine _).mono ?_; rintro e w' ⟨rfl, rfl⟩)
       (try simp only [Exit.inBlock, Exit.then])
       refine bodyPost_ret (v := .agg #[.int .i64 (0), .int .i64 (-1)]) (ret_pair rfl _ _ w.heap.size _ _ _ _ _ rfl (by first | exact heap_two _ _ _ | exact heap_drewN _ _ _ | exact heap_drewN2 _ _ _ _ | exact heap_alloc_new _ _) Tryd.underlying72 rfl (by kernel_rfl)) rfl (wf_close (c := 0) HF.out (((Below.refl _ _).alloc (Nat.le_refl _) _).alloc (by simp) _))
end Go.Proofs.YtajnfkmkombajabDoor
