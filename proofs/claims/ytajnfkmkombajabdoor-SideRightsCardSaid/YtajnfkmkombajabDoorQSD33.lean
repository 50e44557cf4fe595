/-
  side.Rights' own refusal, in company.
  SideRights behind side.Rights: to the loop over the levels, and that loop.
-/
import Derived.Test.YtajnfkmkombajabDoorQSD29
import Derived.Test.YtajnfkmkombajabDoorQSD32
import Derived.Test.YtajnfkmkombajabDoorQSD18
set_option linter.unusedVariables false
set_option linter.unusedSimpArgs false
namespace Go.Proofs.YtajnfkmkombajabDoor
open Go Go.Conc Go.ConcN Go.RowKit Go.Conc.Lib Go.ConcR.Gen Go.ConcN.Gen
section
variable {n0 : Nat} {A : Nat → Addr} {W0 : World} {ao : Option Addr} {cap : Nat} {zs : List Int} {s : Nat} {c : Int} {al : Option Addr} {capl : Nat} {ls : List Int} {wk : Int} {b₀ : Frame} {a₀ : Act} {ops : Array Oper} {i : Nat} {rest : List Nat} {k : List Item}
set_option maxRecDepth 100000 in
set_option maxHeartbeats 8000000 in
theorem rights_err1 {S M : Nat → Prop} {W : World} {Cs : List Frame} {Stop : Goroutine → World → (Nat → Prop) → Prop} (hI : Init n0 A W) (hS : ∀ b, b < n0 → S b ∨ M b) (h1 : decide (wk < 1) = true)
   (hk : ∀ (W1 : World) (M1 : Nat → Prop), (∀ b, M b → M1 b) → (∀ b, M1 b → M b ∨ (W.heap.size ≤ b ∧ b < W1.heap.size)) → RelyS S M W W1 → GoesW Tryd.prog true (fun _ => True) S Stop (G ((b₀.at a₀ (.inRegion ops (i :: rest) :: k)).finish (.tuple #[.slice none 0 0, ev A 3])) Cs) W1 M1) :
   GoesW Tryd.prog true (fun _ => True) S Stop (G (Frame.enter Tryd.prog 99 #[.slice ao zs.length cap, .int .u64 s, .int .i64 c, .slice al ls.length capl, .int .i64 wk] .normal) (b₀.at a₀ (.inRegion ops (i :: rest) :: k) :: Cs)) W M := by
 rw [enter_at (fn := Tryd.f99) (c := bodyR) _ Tryd.func99 rfl]
 rw [Frame.finish_at, ev_some A (by decide)] at hk
 have hsz := hI.size
 simp only [bodyR, Tryd.f99, Option.getD_some]
 walk_nrm
 repeat (first
   | refine gw_seq ?_
   | refine gw_skip ?_
   | refine gw_block ?_
   | refine gw_loop ?_
   | refine gw_inLoop ?_
   | refine gw_inBlock ?_
   | refine gw_region_end ?_
   | refine gw_label ?_
   | refine gw_ret ?_
   | (refine gw_region ?_; simp only [List.size_toArray, List.length_cons, List.length_nil, Nat.reduceAdd, Nat.zero_add, List.range, List.range.loop])
   | refine gw_exit rfl ?_
   | refine gw_yes rfl ?_
   | refine gw_no rfl ?_)
 refine gw_push (v := fun B => .pointer (some ⟨B, 0, none⟩)) (ob := .cells #[.slice ao zs.length cap] 51 (0, 0)) rfl rfl (by k_ne) (fun w _ _ => by go_simp) (fun w _ _ e he => by have hm := mem_listed he; simp [go_sem] at hm) (fun W5 b5 r5 l5 g5 x5 => ?_)
 walk_nrm
 refine gw_push (v := fun B => .pointer (some ⟨B, 0, none⟩)) (ob := .cells #[.int .u64 s] 94 (0, 0)) rfl rfl (by k_ne) (fun w _ _ => by go_simp) (fun w _ _ e he => by have hm := mem_listed he; simp [go_sem] at hm) (fun W6 b6 r6 l6 g6 x6 => ?_)
 walk_nrm
 refine gw_push (v := fun B => .pointer (some ⟨B, 0, none⟩)) (ob := .cells #[.int .i64 c] 3 (0, 0)) rfl rfl (by k_ne) (fun w _ _ => by go_simp) (fun w _ _ e he => by have hm := mem_listed he; simp [go_sem] at hm) (fun W7 b7 r7 l7 g7 x7 => ?_)
 walk_nrm
 refine gw_push (v := fun B => .pointer (some ⟨B, 0, none⟩)) (ob := .cells #[.slice al ls.length capl] 51 (0, 0)) rfl rfl (by k_ne) (fun w _ _ => by go_simp) (fun w _ _ e he => by have hm := mem_listed he; simp [go_sem] at hm) (fun W8 b8 r8 l8 g8 x8 => ?_)
 walk_nrm
 have s5 := r5.size
 have s6 := r6.size
 have s7 := r7.size
 have s8 := r8.size
 have k8 : W8.cell? ⟨b8, 0, none⟩ = some (.slice al ls.length capl) := by rw [at_cell x8]; rfl
 have q6 : RelyS S M W W6 := r5.trans (r6.mono fun b q => q.imp (fun q => q) .inl)
 have q7 : RelyS S M W W7 := q6.trans (r7.mono fun b q => q.imp (fun q => q) fun q => .inl (.inl q))
 have q8 : RelyS S M W W8 := q7.trans (r8.mono fun b q => q.imp (fun q => q) fun q => .inl (.inl (.inl q)))
 have kE : W8.cell? ⟨4, 0, none⟩ = some (.iface 273 (.pointer (some (A 3)))) := by
   rw [← ev_some A (by decide)]
   exact (init_rely hI q8 hS).sen.errs.cell 3 (by decide)
 have mE : S (4 : Nat) ∨ ((((M 4 ∨ (4 : Nat) = b5) ∨ (4 : Nat) = b6) ∨ (4 : Nat) = b7) ∨ (4 : Nat) = b8) :=
   (hS _ (Nat.lt_trans (by decide) hI.low)).imp (fun q => q) fun q => .inl (.inl (.inl (.inl q)))
 have hk8 := hk W8 (fun x => (((M x ∨ x = b5) ∨ x = b6) ∨ x = b7) ∨ x = b8) (fun b q => .inl (.inl (.inl (.inl q)))) (fun b q => by
   rcases q with (((q | rfl) | rfl) | rfl) | rfl
   · exact .inl q
   · exact .inr ⟨by omega, by omega⟩
   · exact .inr ⟨by omega, by omega⟩
   · exact .inr ⟨by omega, by omega⟩
   · exact .inr ⟨by omega, by omega⟩) q8
 clear hk x5 x6 x7 x8 q6 q7 q8 r5 r6 r7 r8 hI hS
 repeat (first
   | refine gw_seq ?_
   | refine gw_skip ?_
   | refine gw_block ?_
   | refine gw_loop ?_
   | refine gw_inLoop ?_
   | refine gw_inBlock ?_
   | refine gw_region_end ?_
   | refine gw_label ?_
   | refine gw_ret ?_
   | (refine gw_region ?_; simp only [List.size_toArray, List.length_cons, List.length_nil, Nat.reduceAdd, Nat.zero_add, List.range, List.range.loop])
   | refine gw_exit rfl ?_
   | refine gw_yes rfl ?_
   | refine gw_no rfl ?_
   | (refine gw_op rfl rfl (by k_ne) (fun wq rq iq Kq hKq => ?_)
      go_simp
      refine hKq _ ?_ ?_
      · intro eq heq
        have hmq := mem_listed heq
        simp [go_sem, *] at hmq
      clear hKq Kq rq iq wq
      try w_num)
   | (refine gw_unwanted rfl rfl ?_; walk_nrm)
   | (refine gw_defer rfl rfl (by k_ne) rfl ?_; walk_nrm))
 refine gw_op rfl rfl (by k_ne) (fun wq rq iq Kq hKq => ?_)
 have hl := cell_rely rq (.inr (.inr rfl)) k8
 go_simp
 refine hKq _ ?_ ?_
 · intro eq heq
   have hmq := mem_listed heq
   simp [go_sem, *] at hmq
   subst hmq
   exact evOk_rd (.inr (.inr rfl))
 clear hKq Kq hl rq iq wq
 (refine gw_op rfl rfl (by k_ne) (fun wq rq iq Kq hKq => ?_)
  go_simp
  refine hKq _ ?_ ?_
  · intro eq heq
    have hmq := mem_listed heq
    simp [go_sem, *] at hmq
  clear hKq Kq rq iq wq
  try w_num)
 refine gw_call rfl rfl (by k_ne) rfl Tryd.func137 (by kernel_rfl) rfl ?_
 walk_nrmf Tryd.f137
 repeat (first
   | refine gw_seq ?_
   | refine gw_skip ?_
   | refine gw_block ?_
   | refine gw_loop ?_
   | refine gw_inLoop ?_
   | refine gw_inBlock ?_
   | refine gw_region_end ?_
   | refine gw_label ?_
   | refine gw_ret ?_
   | (refine gw_region ?_; simp only [List.size_toArray, List.length_cons, List.length_nil, Nat.reduceAdd, Nat.zero_add, List.range, List.range.loop])
   | refine gw_exit rfl ?_
   | refine gw_yes rfl ?_
   | refine gw_no rfl ?_
   | (refine gw_op rfl rfl (by k_ne) (fun wq rq iq Kq hKq => ?_)
      go_simp
      refine hKq _ ?_ ?_
      · intro eq heq
        have hmq := mem_listed heq
        simp [go_sem, *] at hmq
      clear hKq Kq rq iq wq
      try w_num)
   | (refine gw_unwanted rfl rfl ?_; walk_nrm)
   | (refine gw_defer rfl rfl (by k_ne) rfl ?_; walk_nrm))
 refine gw_op rfl rfl (by k_ne) (fun wq rq iq Kq hKq => ?_)
 have hl := cell_rely rq mE kE
 go_simp
 refine hKq _ ?_ ?_
 · intro eq heq
   have hmq := mem_listed heq
   simp [go_sem, *] at hmq
   subst hmq
   exact evOk_rd (mE)
 clear hKq Kq hl rq iq wq
 repeat (first
   | refine gw_seq ?_
   | refine gw_skip ?_
   | refine gw_block ?_
   | refine gw_loop ?_
   | refine gw_inLoop ?_
   | refine gw_inBlock ?_
   | refine gw_region_end ?_
   | refine gw_label ?_
   | refine gw_ret ?_
   | (refine gw_region ?_; simp only [List.size_toArray, List.length_cons, List.length_nil, Nat.reduceAdd, Nat.zero_add, List.range, List.range.loop])
   | refine gw_exit rfl ?_
   | refine gw_yes rfl ?_
   | refine gw_no rfl ?_
   | (refine gw_op rfl rfl (by k_ne) (fun wq rq iq Kq hKq => ?_)
      go_simp
      refine hKq _ ?_ ?_
      · intro eq heq
        have hmq := mem_listed heq
        simp [go_sem, *] at hmq
      clear hKq Kq rq iq wq
      try w_num)
   | (refine gw_unwanted rfl rfl ?_; walk_nrm)
   | (refine gw_defer rfl rfl (by k_ne) rfl ?_; walk_nrm))
 refine gw_leave1 rfl rfl Tryd.func137 rfl ?_
 walk_nrm
 repeat (first
   | refine gw_seq ?_
   | refine gw_skip ?_
   | refine gw_block ?_
   | refine gw_loop ?_
   | refine gw_inLoop ?_
   | refine gw_inBlock ?_
   | refine gw_region_end ?_
   | refine gw_label ?_
   | refine gw_ret ?_
   | (refine gw_region ?_; simp only [List.size_toArray, List.length_cons, List.length_nil, Nat.reduceAdd, Nat.zero_add, List.range, List.range.loop])
   | refine gw_exit rfl ?_
   | refine gw_yes rfl ?_
   | refine gw_no rfl ?_
   | (refine gw_op rfl rfl (by k_ne) (fun wq rq iq Kq hKq => ?_)
      go_simp
      refine hKq _ ?_ ?_
      · intro eq heq
        have hmq := mem_listed heq
        simp [go_sem, *] at hmq
      clear hKq Kq rq iq wq
      try w_num)
   | (refine gw_unwanted rfl rfl ?_; walk_nrm)
   | (refine gw_defer rfl rfl (by k_ne) rfl ?_; walk_nrm))
 refine gw_val (v := .bool true) rfl rfl (by k_ne) (fun w => by kernel_rfl) (fun w => by kernel_rfl) ?_
 repeat (first
   | refine gw_seq ?_
   | refine gw_skip ?_
   | refine gw_block ?_
   | refine gw_loop ?_
   | refine gw_inLoop ?_
   | refine gw_inBlock ?_
   | refine gw_region_end ?_
   | refine gw_label ?_
   | refine gw_ret ?_
   | (refine gw_region ?_; simp only [List.size_toArray, List.length_cons, List.length_nil, Nat.reduceAdd, Nat.zero_add, List.range, List.range.loop])
   | refine gw_exit rfl ?_
   | refine gw_yes rfl ?_
   | refine gw_no rfl ?_
   | (refine gw_op rfl rfl (by k_ne) (fun wq rq iq Kq hKq => ?_)
      go_simp
      refine hKq _ ?_ ?_
      · intro eq heq
        have hmq := mem_listed heq
        simp [go_sem, *] at hmq
      clear hKq Kq rq iq wq
      try w_num)
   | (refine gw_unwanted rfl rfl ?_; walk_nrm)
   | (refine gw_defer rfl rfl (by k_ne) rfl ?_; walk_nrm))
 refine gw_leave2 rfl rfl Tryd.func99 rfl ?_
 exact hk8
set_option maxRecDepth 100000 in
set_option maxHeartbeats 8000000 in
theorem rights_err2 {S M : Nat → Prop} {W : World} {Cs : List Frame} {Stop : Goroutine → World → (Nat → Prop) → Prop} (hI : Init n0 A W) (hS : ∀ b, b < n0 → S b ∨ M b) (h1 : decide (wk < 1) = false) (h2 : decide (16 < wk) = true)
   (hk : ∀ (W1 : World) (M1 : Nat → Prop), (∀ b, M b → M1 b) → (∀ b, M1 b → M b ∨ (W.heap.size ≤ b ∧ b < W1.heap.size)) → RelyS S M W W1 → GoesW Tryd.prog true (fun _ => True) S Stop (G ((b₀.at a₀ (.inRegion ops (i :: rest) :: k)).finish (.tuple #[.slice none 0 0, ev A 3])) Cs) W1 M1) :
   GoesW Tryd.prog true (fun _ => True) S Stop (G (Frame.enter Tryd.prog 99 #[.slice ao zs.length cap, .int .u64 s, .int .i64 c, .slice al ls.length capl, .int .i64 wk] .normal) (b₀.at a₀ (.inRegion ops (i :: rest) :: k) :: Cs)) W M := by
 rw [enter_at (fn := Tryd.f99) (c := bodyR) _ Tryd.func99 rfl]
 rw [Frame.finish_at, ev_some A (by decide)] at hk
 have hsz := hI.size
 simp only [bodyR, Tryd.f99, Option.getD_some]
 walk_nrm
 repeat (first
   | refine gw_seq ?_
   | refine gw_skip ?_
   | refine gw_block ?_
   | refine gw_loop ?_
   | refine gw_inLoop ?_
   | refine gw_inBlock ?_
   | refine gw_region_end ?_
   | refine gw_label ?_
   | refine gw_ret ?_
   | (refine gw_region ?_; simp only [List.size_toArray, List.length_cons, List.length_nil, Nat.reduceAdd, Nat.zero_add, List.range, List.range.loop])
   | refine gw_exit rfl ?_
   | refine gw_yes rfl ?_
   | refine gw_no rfl ?_)
 refine gw_push (v := fun B => .pointer (some ⟨B, 0, none⟩)) (ob := .cells #[.slice ao zs.length cap] 51 (0, 0)) rfl rfl (by k_ne) (fun w _ _ => by go_simp) (fun w _ _ e he => by have hm := mem_listed he; simp [go_sem] at hm) (fun W5 b5 r5 l5 g5 x5 => ?_)
 walk_nrm
 refine gw_push (v := fun B => .pointer (some ⟨B, 0, none⟩)) (ob := .cells #[.int .u64 s] 94 (0, 0)) rfl rfl (by k_ne) (fun w _ _ => by go_simp) (fun w _ _ e he => by have hm := mem_listed he; simp [go_sem] at hm) (fun W6 b6 r6 l6 g6 x6 => ?_)
 walk_nrm
 refine gw_push (v := fun B => .pointer (some ⟨B, 0, none⟩)) (ob := .cells #[.int .i64 c] 3 (0, 0)) rfl rfl (by k_ne) (fun w _ _ => by go_simp) (fun w _ _ e he => by have hm := mem_listed he; simp [go_sem] at hm) (fun W7 b7 r7 l7 g7 x7 => ?_)
 walk_nrm
 refine gw_push (v := fun B => .pointer (some ⟨B, 0, none⟩)) (ob := .cells #[.slice al ls.length capl] 51 (0, 0)) rfl rfl (by k_ne) (fun w _ _ => by go_simp) (fun w _ _ e he => by have hm := mem_listed he; simp [go_sem] at hm) (fun W8 b8 r8 l8 g8 x8 => ?_)
 walk_nrm
 have s5 := r5.size
 have s6 := r6.size
 have s7 := r7.size
 have s8 := r8.size
 have k8 : W8.cell? ⟨b8, 0, none⟩ = some (.slice al ls.length capl) := by rw [at_cell x8]; rfl
 have q6 : RelyS S M W W6 := r5.trans (r6.mono fun b q => q.imp (fun q => q) .inl)
 have q7 : RelyS S M W W7 := q6.trans (r7.mono fun b q => q.imp (fun q => q) fun q => .inl (.inl q))
 have q8 : RelyS S M W W8 := q7.trans (r8.mono fun b q => q.imp (fun q => q) fun q => .inl (.inl (.inl q)))
 have kE : W8.cell? ⟨4, 0, none⟩ = some (.iface 273 (.pointer (some (A 3)))) := by
   rw [← ev_some A (by decide)]
   exact (init_rely hI q8 hS).sen.errs.cell 3 (by decide)
 have mE : S (4 : Nat) ∨ ((((M 4 ∨ (4 : Nat) = b5) ∨ (4 : Nat) = b6) ∨ (4 : Nat) = b7) ∨ (4 : Nat) = b8) :=
   (hS _ (Nat.lt_trans (by decide) hI.low)).imp (fun q => q) fun q => .inl (.inl (.inl (.inl q)))
 have hk8 := hk W8 (fun x => (((M x ∨ x = b5) ∨ x = b6) ∨ x = b7) ∨ x = b8) (fun b q => .inl (.inl (.inl (.inl q)))) (fun b q => by
   rcases q with (((q | rfl) | rfl) | rfl) | rfl
   · exact .inl q
   · exact .inr ⟨by omega, by omega⟩
   · exact .inr ⟨by omega, by omega⟩
   · exact .inr ⟨by omega, by omega⟩
   · exact .inr ⟨by omega, by omega⟩) q8
 clear hk x5 x6 x7 x8 q6 q7 q8 r5 r6 r7 r8 hI hS
 repeat (first
   | refine gw_seq ?_
   | refine gw_skip ?_
   | refine gw_block ?_
   | refine gw_loop ?_
   | refine gw_inLoop ?_
   | refine gw_inBlock ?_
   | refine gw_region_end ?_
   | refine gw_label ?_
   | refine gw_ret ?_
   | (refine gw_region ?_; simp only [List.size_toArray, List.length_cons, List.length_nil, Nat.reduceAdd, Nat.zero_add, List.range, List.range.loop])
   | refine gw_exit rfl ?_
   | refine gw_yes rfl ?_
   | refine gw_no rfl ?_
   | (refine gw_op rfl rfl (by k_ne) (fun wq rq iq Kq hKq => ?_)
      go_simp
      refine hKq _ ?_ ?_
      · intro eq heq
        have hmq := mem_listed heq
        simp [go_sem, *] at hmq
      clear hKq Kq rq iq wq
      try w_num)
   | (refine gw_unwanted rfl rfl ?_; walk_nrm)
   | (refine gw_defer rfl rfl (by k_ne) rfl ?_; walk_nrm))
 refine gw_op rfl rfl (by k_ne) (fun wq rq iq Kq hKq => ?_)
 have hl := cell_rely rq (.inr (.inr rfl)) k8
 go_simp
 refine hKq _ ?_ ?_
 · intro eq heq
   have hmq := mem_listed heq
   simp [go_sem, *] at hmq
   subst hmq
   exact evOk_rd (.inr (.inr rfl))
 clear hKq Kq hl rq iq wq
 (refine gw_op rfl rfl (by k_ne) (fun wq rq iq Kq hKq => ?_)
  go_simp
  refine hKq _ ?_ ?_
  · intro eq heq
    have hmq := mem_listed heq
    simp [go_sem, *] at hmq
  clear hKq Kq rq iq wq
  try w_num)
 refine gw_call rfl rfl (by k_ne) rfl Tryd.func137 (by kernel_rfl) rfl ?_
 walk_nrmf Tryd.f137
 repeat (first
   | refine gw_seq ?_
   | refine gw_skip ?_
   | refine gw_block ?_
   | refine gw_loop ?_
   | refine gw_inLoop ?_
   | refine gw_inBlock ?_
   | refine gw_region_end ?_
   | refine gw_label ?_
   | refine gw_ret ?_
   | (refine gw_region ?_; simp only [List.size_toArray, List.length_cons, List.length_nil, Nat.reduceAdd, Nat.zero_add, List.range, List.range.loop])
   | refine gw_exit rfl ?_
   | refine gw_yes rfl ?_
   | refine gw_no rfl ?_
   | (refine gw_op rfl rfl (by k_ne) (fun wq rq iq Kq hKq => ?_)
      go_simp
      refine hKq _ ?_ ?_
      · intro eq heq
        have hmq := mem_listed heq
        simp [go_sem, *] at hmq
      clear hKq Kq rq iq wq
      try w_num)
   | (refine gw_unwanted rfl rfl ?_; walk_nrm)
   | (refine gw_defer rfl rfl (by k_ne) rfl ?_; walk_nrm))
 refine gw_op rfl rfl (by k_ne) (fun wq rq iq Kq hKq => ?_)
 have hl := cell_rely rq mE kE
 go_simp
 refine hKq _ ?_ ?_
 · intro eq heq
   have hmq := mem_listed heq
   simp [go_sem, *] at hmq
   subst hmq
   exact evOk_rd (mE)
 clear hKq Kq hl rq iq wq
 repeat (first
   | refine gw_seq ?_
   | refine gw_skip ?_
   | refine gw_block ?_
   | refine gw_loop ?_
   | refine gw_inLoop ?_
   | refine gw_inBlock ?_
   | refine gw_region_end ?_
   | refine gw_label ?_
   | refine gw_ret ?_
   | (refine gw_region ?_; simp only [List.size_toArray, List.length_cons, List.length_nil, Nat.reduceAdd, Nat.zero_add, List.range, List.range.loop])
   | refine gw_exit rfl ?_
   | refine gw_yes rfl ?_
   | refine gw_no rfl ?_
   | (refine gw_op rfl rfl (by k_ne) (fun wq rq iq Kq hKq => ?_)
      go_simp
      refine hKq _ ?_ ?_
      · intro eq heq
        have hmq := mem_listed heq
        simp [go_sem, *] at hmq
      clear hKq Kq rq iq wq
      try w_num)
   | (refine gw_unwanted rfl rfl ?_; walk_nrm)
   | (refine gw_defer rfl rfl (by k_ne) rfl ?_; walk_nrm))
 refine gw_leave1 rfl rfl Tryd.func137 rfl ?_
 walk_nrm
 repeat (first
   | refine gw_seq ?_
   | refine gw_skip ?_
   | refine gw_block ?_
   | refine gw_loop ?_
   | refine gw_inLoop ?_
   | refine gw_inBlock ?_
   | refine gw_region_end ?_
   | refine gw_label ?_
   | refine gw_ret ?_
   | (refine gw_region ?_; simp only [List.size_toArray, List.length_cons, List.length_nil, Nat.reduceAdd, Nat.zero_add, List.range, List.range.loop])
   | refine gw_exit rfl ?_
   | refine gw_yes rfl ?_
   | refine gw_no rfl ?_
   | (refine gw_op rfl rfl (by k_ne) (fun wq rq iq Kq hKq => ?_)
      go_simp
      refine hKq _ ?_ ?_
      · intro eq heq
        have hmq := mem_listed heq
        simp [go_sem, *] at hmq
      clear hKq Kq rq iq wq
      try w_num)
   | (refine gw_unwanted rfl rfl ?_; walk_nrm)
   | (refine gw_defer rfl rfl (by k_ne) rfl ?_; walk_nrm))
 refine gw_val (v := .bool true) rfl rfl (by k_ne) (fun w => by kernel_rfl) (fun w => by kernel_rfl) ?_
 repeat (first
   | refine gw_seq ?_
   | refine gw_skip ?_
   | refine gw_block ?_
   | refine gw_loop ?_
   | refine gw_inLoop ?_
   | refine gw_inBlock ?_
   | refine gw_region_end ?_
   | refine gw_label ?_
   | refine gw_ret ?_
   | (refine gw_region ?_; simp only [List.size_toArray, List.length_cons, List.length_nil, Nat.reduceAdd, Nat.zero_add, List.range, List.range.loop])
   | refine gw_exit rfl ?_
   | refine gw_yes rfl ?_
   | refine gw_no rfl ?_
   | (refine gw_op rfl rfl (by k_ne) (fun wq rq iq Kq hKq => ?_)
      go_simp
      refine hKq _ ?_ ?_
      · intro eq heq
        have hmq := mem_listed heq
        simp [go_sem, *] at hmq
      clear hKq Kq rq iq wq
      try w_num)
   | (refine gw_unwanted rfl rfl ?_; walk_nrm)
   | (refine gw_defer rfl rfl (by k_ne) rfl ?_; walk_nrm))
 refine gw_leave2 rfl rfl Tryd.func99 rfl ?_
 exact hk8
set_option maxRecDepth 100000 in
set_option maxHeartbeats 8000000 in
theorem rights_err3 {S M : Nat → Prop} {W : World} {Cs : List Frame} {Stop : Goroutine → World → (Nat → Prop) → Prop} (hI : Init n0 A W) (hS : ∀ b, b < n0 → S b ∨ M b) (h1 : decide (wk < 1) = false) (h2 : decide (16 < wk) = false) (h3 : decide (100 < (ls.length : Int)) = true)
   (hk : ∀ (W1 : World) (M1 : Nat → Prop), (∀ b, M b → M1 b) → (∀ b, M1 b → M b ∨ (W.heap.size ≤ b ∧ b < W1.heap.size)) → RelyS S M W W1 → GoesW Tryd.prog true (fun _ => True) S Stop (G ((b₀.at a₀ (.inRegion ops (i :: rest) :: k)).finish (.tuple #[.slice none 0 0, ev A 2])) Cs) W1 M1) :
   GoesW Tryd.prog true (fun _ => True) S Stop (G (Frame.enter Tryd.prog 99 #[.slice ao zs.length cap, .int .u64 s, .int .i64 c, .slice al ls.length capl, .int .i64 wk] .normal) (b₀.at a₀ (.inRegion ops (i :: rest) :: k) :: Cs)) W M := by
 rw [enter_at (fn := Tryd.f99) (c := bodyR) _ Tryd.func99 rfl]
 rw [Frame.finish_at, ev_some A (by decide)] at hk
 have hsz := hI.size
 simp only [bodyR, Tryd.f99, Option.getD_some]
 generalize hm : (ls.length : Int) = mi at h3
 walk_nrm
 repeat (first
   | refine gw_seq ?_
   | refine gw_skip ?_
   | refine gw_block ?_
   | refine gw_loop ?_
   | refine gw_inLoop ?_
   | refine gw_inBlock ?_
   | refine gw_region_end ?_
   | refine gw_label ?_
   | refine gw_ret ?_
   | (refine gw_region ?_; simp only [List.size_toArray, List.length_cons, List.length_nil, Nat.reduceAdd, Nat.zero_add, List.range, List.range.loop])
   | refine gw_exit rfl ?_
   | refine gw_yes rfl ?_
   | refine gw_no rfl ?_)
 refine gw_push (v := fun B => .pointer (some ⟨B, 0, none⟩)) (ob := .cells #[.slice ao zs.length cap] 51 (0, 0)) rfl rfl (by k_ne) (fun w _ _ => by go_simp) (fun w _ _ e he => by have hm := mem_listed he; simp [go_sem] at hm) (fun W5 b5 r5 l5 g5 x5 => ?_)
 walk_nrm
 refine gw_push (v := fun B => .pointer (some ⟨B, 0, none⟩)) (ob := .cells #[.int .u64 s] 94 (0, 0)) rfl rfl (by k_ne) (fun w _ _ => by go_simp) (fun w _ _ e he => by have hm := mem_listed he; simp [go_sem] at hm) (fun W6 b6 r6 l6 g6 x6 => ?_)
 walk_nrm
 refine gw_push (v := fun B => .pointer (some ⟨B, 0, none⟩)) (ob := .cells #[.int .i64 c] 3 (0, 0)) rfl rfl (by k_ne) (fun w _ _ => by go_simp) (fun w _ _ e he => by have hm := mem_listed he; simp [go_sem] at hm) (fun W7 b7 r7 l7 g7 x7 => ?_)
 walk_nrm
 refine gw_push (v := fun B => .pointer (some ⟨B, 0, none⟩)) (ob := .cells #[.slice al ls.length capl] 51 (0, 0)) rfl rfl (by k_ne) (fun w _ _ => by go_simp) (fun w _ _ e he => by have hm := mem_listed he; simp [go_sem] at hm) (fun W8 b8 r8 l8 g8 x8 => ?_)
 walk_nrm
 have s5 := r5.size
 have s6 := r6.size
 have s7 := r7.size
 have s8 := r8.size
 have k8 : W8.cell? ⟨b8, 0, none⟩ = some (.slice al ls.length capl) := by rw [at_cell x8]; rfl
 have q6 : RelyS S M W W6 := r5.trans (r6.mono fun b q => q.imp (fun q => q) .inl)
 have q7 : RelyS S M W W7 := q6.trans (r7.mono fun b q => q.imp (fun q => q) fun q => .inl (.inl q))
 have q8 : RelyS S M W W8 := q7.trans (r8.mono fun b q => q.imp (fun q => q) fun q => .inl (.inl (.inl q)))
 have kE : W8.cell? ⟨0, 0, none⟩ = some (.iface 273 (.pointer (some (A 2)))) := by
   rw [← ev_some A (by decide)]
   exact (init_rely hI q8 hS).sen.errs.cell 2 (by decide)
 have mE : S (0 : Nat) ∨ ((((M 0 ∨ (0 : Nat) = b5) ∨ (0 : Nat) = b6) ∨ (0 : Nat) = b7) ∨ (0 : Nat) = b8) :=
   (hS _ (Nat.lt_trans (by decide) hI.low)).imp (fun q => q) fun q => .inl (.inl (.inl (.inl q)))
 have hk8 := hk W8 (fun x => (((M x ∨ x = b5) ∨ x = b6) ∨ x = b7) ∨ x = b8) (fun b q => .inl (.inl (.inl (.inl q)))) (fun b q => by
   rcases q with (((q | rfl) | rfl) | rfl) | rfl
   · exact .inl q
   · exact .inr ⟨by omega, by omega⟩
   · exact .inr ⟨by omega, by omega⟩
   · exact .inr ⟨by omega, by omega⟩
   · exact .inr ⟨by omega, by omega⟩) q8
 clear hk x5 x6 x7 x8 q6 q7 q8 r5 r6 r7 r8 hI hS
 repeat (first
   | refine gw_seq ?_
   | refine gw_skip ?_
   | refine gw_block ?_
   | refine gw_loop ?_
   | refine gw_inLoop ?_
   | refine gw_inBlock ?_
   | refine gw_region_end ?_
   | refine gw_label ?_
   | refine gw_ret ?_
   | (refine gw_region ?_; simp only [List.size_toArray, List.length_cons, List.length_nil, Nat.reduceAdd, Nat.zero_add, List.range, List.range.loop])
   | refine gw_exit rfl ?_
   | refine gw_yes rfl ?_
   | refine gw_no rfl ?_
   | (refine gw_op rfl rfl (by k_ne) (fun wq rq iq Kq hKq => ?_)
      go_simp
      refine hKq _ ?_ ?_
      · intro eq heq
        have hmq := mem_listed heq
        simp [go_sem, *] at hmq
      clear hKq Kq rq iq wq
      try w_num)
   | (refine gw_unwanted rfl rfl ?_; walk_nrm)
   | (refine gw_defer rfl rfl (by k_ne) rfl ?_; walk_nrm))
 refine gw_op rfl rfl (by k_ne) (fun wq rq iq Kq hKq => ?_)
 have hl := cell_rely rq (.inr (.inr rfl)) k8
 go_simp
 refine hKq _ ?_ ?_
 · intro eq heq
   have hmq := mem_listed heq
   simp [go_sem, *] at hmq
   subst hmq
   exact evOk_rd (.inr (.inr rfl))
 clear hKq Kq hl rq iq wq
 (refine gw_op rfl rfl (by k_ne) (fun wq rq iq Kq hKq => ?_)
  go_simp
  refine hKq _ ?_ ?_
  · intro eq heq
    have hmq := mem_listed heq
    simp [go_sem, *] at hmq
  clear hKq Kq rq iq wq
  try w_num)
 refine gw_call rfl rfl (by k_ne) rfl Tryd.func137 (by kernel_rfl) rfl ?_
 walk_nrmf Tryd.f137
 repeat (first
   | refine gw_seq ?_
   | refine gw_skip ?_
   | refine gw_block ?_
   | refine gw_loop ?_
   | refine gw_inLoop ?_
   | refine gw_inBlock ?_
   | refine gw_region_end ?_
   | refine gw_label ?_
   | refine gw_ret ?_
   | (refine gw_region ?_; simp only [List.size_toArray, List.length_cons, List.length_nil, Nat.reduceAdd, Nat.zero_add, List.range, List.range.loop])
   | refine gw_exit rfl ?_
   | refine gw_yes rfl ?_
   | refine gw_no rfl ?_
   | (refine gw_op rfl rfl (by k_ne) (fun wq rq iq Kq hKq => ?_)
      go_simp
      refine hKq _ ?_ ?_
      · intro eq heq
        have hmq := mem_listed heq
        simp [go_sem, *] at hmq
      clear hKq Kq rq iq wq
      try w_num)
   | (refine gw_unwanted rfl rfl ?_; walk_nrm)
   | (refine gw_defer rfl rfl (by k_ne) rfl ?_; walk_nrm))
 refine gw_op rfl rfl (by k_ne) (fun wq rq iq Kq hKq => ?_)
 have hl := cell_rely rq mE kE
 go_simp
 refine hKq _ ?_ ?_
 · intro eq heq
   have hmq := mem_listed heq
   simp [go_sem, *] at hmq
   subst hmq
   exact evOk_rd (mE)
 clear hKq Kq hl rq iq wq
 repeat (first
   | refine gw_seq ?_
   | refine gw_skip ?_
   | refine gw_block ?_
   | refine gw_loop ?_
   | refine gw_inLoop ?_
   | refine gw_inBlock ?_
   | refine gw_region_end ?_
   | refine gw_label ?_
   | refine gw_ret ?_
   | (refine gw_region ?_; simp only [List.size_toArray, List.length_cons, List.length_nil, Nat.reduceAdd, Nat.zero_add, List.range, List.range.loop])
   | refine gw_exit rfl ?_
   | refine gw_yes rfl ?_
   | refine gw_no rfl ?_
   | (refine gw_op rfl rfl (by k_ne) (fun wq rq iq Kq hKq => ?_)
      go_simp
      refine hKq _ ?_ ?_
      · intro eq heq
        have hmq := mem_listed heq
        simp [go_sem, *] at hmq
      clear hKq Kq rq iq wq
      try w_num)
   | (refine gw_unwanted rfl rfl ?_; walk_nrm)
   | (refine gw_defer rfl rfl (by k_ne) rfl ?_; walk_nrm))
 refine gw_leave1 rfl rfl Tryd.func137 rfl ?_
 walk_nrm
 repeat (first
   | refine gw_seq ?_
   | refine gw_skip ?_
   | refine gw_block ?_
   | refine gw_loop ?_
   | refine gw_inLoop ?_
   | refine gw_inBlock ?_
   | refine gw_region_end ?_
   | refine gw_label ?_
   | refine gw_ret ?_
   | (refine gw_region ?_; simp only [List.size_toArray, List.length_cons, List.length_nil, Nat.reduceAdd, Nat.zero_add, List.range, List.range.loop])
   | refine gw_exit rfl ?_
   | refine gw_yes rfl ?_
   | refine gw_no rfl ?_
   | (refine gw_op rfl rfl (by k_ne) (fun wq rq iq Kq hKq => ?_)
      go_simp
      refine hKq _ ?_ ?_
      · intro eq heq
        have hmq := mem_listed heq
        simp [go_sem, *] at hmq
      clear hKq Kq rq iq wq
      try w_num)
   | (refine gw_unwanted rfl rfl ?_; walk_nrm)
   | (refine gw_defer rfl rfl (by k_ne) rfl ?_; walk_nrm))
 refine gw_val (v := .bool true) rfl rfl (by k_ne) (fun w => by kernel_rfl) (fun w => by kernel_rfl) ?_
 repeat (first
   | refine gw_seq ?_
   | refine gw_skip ?_
   | refine gw_block ?_
   | refine gw_loop ?_
   | refine gw_inLoop ?_
   | refine gw_inBlock ?_
   | refine gw_region_end ?_
   | refine gw_label ?_
   | refine gw_ret ?_
   | (refine gw_region ?_; simp only [List.size_toArray, List.length_cons, List.length_nil, Nat.reduceAdd, Nat.zero_add, List.range, List.range.loop])
   | refine gw_exit rfl ?_
   | refine gw_yes rfl ?_
   | refine gw_no rfl ?_
   | (refine gw_op rfl rfl (by k_ne) (fun wq rq iq Kq hKq => ?_)
      go_simp
      refine hKq _ ?_ ?_
      · intro eq heq
        have hmq := mem_listed heq
        simp [go_sem, *] at hmq
      clear hKq Kq rq iq wq
      try w_num)
   | (refine gw_unwanted rfl rfl ?_; walk_nrm)
   | (refine gw_defer rfl rfl (by k_ne) rfl ?_; walk_nrm))
 refine gw_leave2 rfl rfl Tryd.func99 rfl ?_
 exact hk8
theorem rights_err {S M : Nat → Prop} {W : World} {Cs : List Frame} {Stop : Goroutine → World → (Nat → Prop) → Prop} (hI : Init n0 A W) (hS : ∀ b, b < n0 → S b ∨ M b) (hf : wfC wk (ls.length : Int) ≠ 0)
   (hk : ∀ (W1 : World) (M1 : Nat → Prop), (∀ b, M b → M1 b) → (∀ b, M1 b → M b ∨ (W.heap.size ≤ b ∧ b < W1.heap.size)) → RelyS S M W W1 → GoesW Tryd.prog true (fun _ => True) S Stop (G ((b₀.at a₀ (.inRegion ops (i :: rest) :: k)).finish (.tuple #[.slice none 0 0, ev A (wfC wk (ls.length : Int))])) Cs) W1 M1) :
   GoesW Tryd.prog true (fun _ => True) S Stop (G (Frame.enter Tryd.prog 99 #[.slice ao zs.length cap, .int .u64 s, .int .i64 c, .slice al ls.length capl, .int .i64 wk] .normal) (b₀.at a₀ (.inRegion ops (i :: rest) :: k) :: Cs)) W M := by
 unfold wfC at hf hk
 by_cases h1 : wk < 1
 · rw [if_pos (.inl h1)] at hk
   exact rights_err1 hI hS (decide_eq_true h1) hk
 by_cases h2 : 16 < wk
 · rw [if_pos (.inr h2)] at hk
   exact rights_err2 hI hS (decide_eq_false h1) (decide_eq_true h2) hk
 rw [if_neg (by omega)] at hf hk
 by_cases h3 : 100 < (ls.length : Int)
 · rw [if_pos h3] at hk
   exact rights_err3 hI hS (decide_eq_false h1) (decide_eq_false h2) (decide_eq_true h3) hk
 · rw [if_neg h3] at hf
   exact absurd rfl hf
end
end Go.Proofs.YtajnfkmkombajabDoor
namespace Go.Proofs.YtajnfkmkombajabDoor
open Go Go.Conc Go.ConcN Go.RowKit Go.Conc.Lib Go.ConcR.Gen Go.ConcN.Gen
noncomputable def cL1 : Code := match restS5 with | .seq _ (.seq (.seq _ (.block _ (.loop c))) _) => c | _ => .skip
noncomputable def restS12 : Code := match restS5 with | .seq _ (.seq _ c) => c | _ => .skip
noncomputable def rgS5 : Array Oper := match restS5 with | .seq (.region _ ops _) _ => ops | _ => #[]
noncomputable def rgS6 : Array Oper := match restS5 with | .seq _ (.seq (.seq (.region _ ops _) _) _) => ops | _ => #[]
theorem restS5_eq : restS5 = .seq (.region 5 rgS5 false) (.seq (.seq (.region 6 rgS6 false) (.block 0 (.loop cL1))) restS12) := rfl
set_option maxRecDepth 100000 in
theorem cons_ten {n : Nat} {l : List Value} (h : l.length = n + 10) : ∃ x0 x1 x2 x3 x4 x5 x6 x7 x8 x9 l', l = x0 :: x1 :: x2 :: x3 :: x4 :: x5 :: x6 :: x7 :: x8 :: x9 :: l' ∧ l'.length = n := by
 match l, h with
 | x0 :: x1 :: x2 :: x3 :: x4 :: x5 :: x6 :: x7 :: x8 :: x9 :: l', h => exact ⟨x0, x1, x2, x3, x4, x5, x6, x7, x8, x9, l', rfl, by simpa using h⟩
theorem cons_seven {l : List Value} (h : l.length = 7) : ∃ x0 x1 x2 x3 x4 x5 x6, l = x0 :: x1 :: x2 :: x3 :: x4 :: x5 :: x6 :: [] := by
 match l, h with
 | x0 :: x1 :: x2 :: x3 :: x4 :: x5 :: x6 :: [], h => exact ⟨x0, x1, x2, x3, x4, x5, x6, rfl⟩
set_option maxRecDepth 100000 in
theorem arr137 (T : Array Value) (h : T.size = 137) : ∃ v : Nat → Value, T = (List.toArray (v 0 :: v 1 :: v 2 :: v 3 :: v 4 :: v 5 :: v 6 :: v 7 :: v 8 :: v 9 :: v 10 :: v 11 :: v 12 :: v 13 :: v 14 :: v 15 :: v 16 :: v 17 :: v 18 :: v 19 :: v 20 :: v 21 :: v 22 :: v 23 :: v 24 :: v 25 :: v 26 :: v 27 :: v 28 :: v 29 :: v 30 :: v 31 :: v 32 :: v 33 :: v 34 :: v 35 :: v 36 :: v 37 :: v 38 :: v 39 :: v 40 :: v 41 :: v 42 :: v 43 :: v 44 :: v 45 :: v 46 :: v 47 :: v 48 :: v 49 :: v 50 :: v 51 :: v 52 :: v 53 :: v 54 :: v 55 :: v 56 :: v 57 :: v 58 :: v 59 :: v 60 :: v 61 :: v 62 :: v 63 :: v 64 :: v 65 :: v 66 :: v 67 :: v 68 :: v 69 :: v 70 :: v 71 :: v 72 :: v 73 :: v 74 :: v 75 :: v 76 :: v 77 :: v 78 :: v 79 :: v 80 :: v 81 :: v 82 :: v 83 :: v 84 :: v 85 :: v 86 :: v 87 :: v 88 :: v 89 :: v 90 :: v 91 :: v 92 :: v 93 :: v 94 :: v 95 :: v 96 :: v 97 :: v 98 :: v 99 :: v 100 :: v 101 :: v 102 :: v 103 :: v 104 :: v 105 :: v 106 :: v 107 :: v 108 :: v 109 :: v 110 :: v 111 :: v 112 :: v 113 :: v 114 :: v 115 :: v 116 :: v 117 :: v 118 :: v 119 :: v 120 :: v 121 :: v 122 :: v 123 :: v 124 :: v 125 :: v 126 :: v 127 :: v 128 :: v 129 :: v 130 :: v 131 :: v 132 :: v 133 :: v 134 :: v 135 :: v 136 :: [])) := by
 obtain ⟨l⟩ := T
 simp only [List.size_toArray] at h
 obtain ⟨v0, v1, v2, v3, v4, v5, v6, v7, v8, v9, l0, e0, h0⟩ := cons_ten (n := 127) h
 obtain ⟨v10, v11, v12, v13, v14, v15, v16, v17, v18, v19, l1, e1, h1⟩ := cons_ten (n := 117) h0
 obtain ⟨v20, v21, v22, v23, v24, v25, v26, v27, v28, v29, l2, e2, h2⟩ := cons_ten (n := 107) h1
 obtain ⟨v30, v31, v32, v33, v34, v35, v36, v37, v38, v39, l3, e3, h3⟩ := cons_ten (n := 97) h2
 obtain ⟨v40, v41, v42, v43, v44, v45, v46, v47, v48, v49, l4, e4, h4⟩ := cons_ten (n := 87) h3
 obtain ⟨v50, v51, v52, v53, v54, v55, v56, v57, v58, v59, l5, e5, h5⟩ := cons_ten (n := 77) h4
 obtain ⟨v60, v61, v62, v63, v64, v65, v66, v67, v68, v69, l6, e6, h6⟩ := cons_ten (n := 67) h5
 obtain ⟨v70, v71, v72, v73, v74, v75, v76, v77, v78, v79, l7, e7, h7⟩ := cons_ten (n := 57) h6
 obtain ⟨v80, v81, v82, v83, v84, v85, v86, v87, v88, v89, l8, e8, h8⟩ := cons_ten (n := 47) h7
 obtain ⟨v90, v91, v92, v93, v94, v95, v96, v97, v98, v99, l9, e9, h9⟩ := cons_ten (n := 37) h8
 obtain ⟨v100, v101, v102, v103, v104, v105, v106, v107, v108, v109, l10, e10, h10⟩ := cons_ten (n := 27) h9
 obtain ⟨v110, v111, v112, v113, v114, v115, v116, v117, v118, v119, l11, e11, h11⟩ := cons_ten (n := 17) h10
 obtain ⟨v120, v121, v122, v123, v124, v125, v126, v127, v128, v129, l12, e12, h12⟩ := cons_ten (n := 7) h11
 obtain ⟨v130, v131, v132, v133, v134, v135, v136, e13⟩ := cons_seven h12
 subst e13 e12 e11 e10 e9 e8 e7 e6 e5 e4 e3 e2 e1 e0
 exact ⟨fun k => List.getD (v0 :: v1 :: v2 :: v3 :: v4 :: v5 :: v6 :: v7 :: v8 :: v9 :: v10 :: v11 :: v12 :: v13 :: v14 :: v15 :: v16 :: v17 :: v18 :: v19 :: v20 :: v21 :: v22 :: v23 :: v24 :: v25 :: v26 :: v27 :: v28 :: v29 :: v30 :: v31 :: v32 :: v33 :: v34 :: v35 :: v36 :: v37 :: v38 :: v39 :: v40 :: v41 :: v42 :: v43 :: v44 :: v45 :: v46 :: v47 :: v48 :: v49 :: v50 :: v51 :: v52 :: v53 :: v54 :: v55 :: v56 :: v57 :: v58 :: v59 :: v60 :: v61 :: v62 :: v63 :: v64 :: v65 :: v66 :: v67 :: v68 :: v69 :: v70 :: v71 :: v72 :: v73 :: v74 :: v75 :: v76 :: v77 :: v78 :: v79 :: v80 :: v81 :: v82 :: v83 :: v84 :: v85 :: v86 :: v87 :: v88 :: v89 :: v90 :: v91 :: v92 :: v93 :: v94 :: v95 :: v96 :: v97 :: v98 :: v99 :: v100 :: v101 :: v102 :: v103 :: v104 :: v105 :: v106 :: v107 :: v108 :: v109 :: v110 :: v111 :: v112 :: v113 :: v114 :: v115 :: v116 :: v117 :: v118 :: v119 :: v120 :: v121 :: v122 :: v123 :: v124 :: v125 :: v126 :: v127 :: v128 :: v129 :: v130 :: v131 :: v132 :: v133 :: v134 :: v135 :: v136 :: []) k undef, rfl⟩
theorem rely_fresh' {S M M' : Nat → Prop} {W W2 W3 : World} {B : Nat} (r2 : RelyS S M W W2) (hB : W.heap.size ≤ B) (hM : ∀ b, M b → M' b) (r3 : RelyS (fun x => S x ∧ x ≠ B) (fun x => M' x ∧ x ≠ B) W2 W3) : RelyS S M W W3 :=
 ⟨by rw [r3.os, r2.os], by rw [r3.out, r2.out], by rw [r3.tape, r2.tape], Nat.le_trans r2.size r3.size, fun b hb hs => by
   rw [r3.keep b (Nat.lt_of_lt_of_le hb r2.size) (hs.imp (fun q => ⟨q, by omega⟩) (fun q => ⟨hM b q, by omega⟩)), r2.keep b hb hs]⟩
section
variable {n0 : Nat} {A : Nat → Addr} {W0 : World} {aw av : Option Addr} {cw cv : Nat} {sd : Nat} {cy wk : Int} {zs ls : List Int} {X0 X1 : Value} {Bf : Nat} {o1 o2 : Option Addr} {c1 c2 : Nat}
def Kn (aw : Option Addr) (cw : Nat) (zs : List Int) (sd : Nat) (cy : Int) (av : Option Addr) (cv : Nat) (ls : List Int) (X0 X1 : Value) (Bf : Nat) (i : Nat) (T : Array Value) : Prop :=
 T.size = 137 ∧ T[0]? = some (.slice aw zs.length cw) ∧ T[1]? = some (.int .u64 sd) ∧ T[2]? = some (.int .i64 cy) ∧ T[3]? = some (.slice av ls.length cv) ∧ T[10]? = some (.bool false) ∧ T[12]? = some X0 ∧ T[13]? = some X1 ∧ T[14]? = some (.pointer (some ⟨Bf, 0, none⟩)) ∧ T[15]? = some (.int .i64 (i : Int))
end
end Go.Proofs.YtajnfkmkombajabDoor
namespace Go.Proofs.YtajnfkmkombajabDoor
open Go Go.Conc Go.ConcN Go.RowKit Go.Conc.Lib Go.ConcR.Gen Go.ConcN.Gen
section
variable {n0 : Nat} {A : Nat → Addr} {W0 : World} {aw av : Option Addr} {cw cv : Nat} {sd : Nat} {cy wk : Int} {zs ls : List Int} {X0 X1 : Value} {Bf : Nat} {o1 o2 : Option Addr} {c1 c2 : Nat}
set_option maxRecDepth 100000 in
set_option maxHeartbeats 8000000 in
theorem loop1_exit2 {S M : Nat → Prop} {W : World} {Stop : Goroutine → World → (Nat → Prop) → Prop} {T : Array Value} {i : Nat} {fc : Nat} {fi : Int} (hK : (Kn aw cw zs sd cy av cv ls X0 X1 Bf i T)) (hn : ls.length < 1000000) (hi : i < ls.length) (hc : fc ≠ 0) (mf : M Bf) (hf : W.heap[Bf]? = some (.cells #[.int .i64 (fc : Int), .int .i64 fi] 72 (0, 0)))
   (hk : ∀ T1 : Array Value, (Kn aw cw zs sd cy av cv ls X0 X1 Bf i T1) → GoesW Tryd.prog true (fun _ => True) S Stop (G ((base 12).at ⟨T1, []⟩ [.code restS12]) []) W M) :
   GoesW Tryd.prog true (fun _ => True) S Stop (G ((base 12).at ⟨T, []⟩ [.code cL1, .inLoop cL1, .inBlock 0, .code restS12]) []) W M := by
 obtain ⟨hT, hs⟩ := hK
 obtain ⟨v, rfl⟩ := arr137 T hT
 clear hT
 simp only [List.getElem?_toArray, List.getElem?_cons_zero, List.getElem?_cons_succ, Option.some.injEq] at hs
 obtain ⟨e0, e1, e2, e3, e10, e12, e13, e14, e15⟩ := hs
 simp only [e0, e1, e2, e3, e10, e12, e13, e14, e15]
 clear e0 e1 e2 e3 e10 e12 e13 e14 e15
 revert hk
 generalize restS12 = rr
 generalize hcc : cL1 = cc
 rw [show Item.code cc = Item.code cL1 by rw [hcc]]
 intro hk
 simp only [cL1, restS5, restS1, bodyS, Tryd.f12, Option.getD_some]
 generalize hm : ls.length = n at *
 have hd : decide ((i : Int) < (n : Int)) = true := by simp; omega
 have k0 : W.cell? ⟨Bf, 0, none⟩ = some (.int .i64 (fc : Int)) := by rw [at_cell hf]; rfl
 generalize hfi : (fc : Int) = fz at k0
 have hz : (fz == 0) = false := by subst hfi; simp; omega
 have hz2 : decide (fz = 0) = false := by subst hfi; simp; omega
 repeat (first
   | refine gw_seq ?_
   | refine gw_skip ?_
   | refine gw_block ?_
   | refine gw_loop ?_
   | refine gw_inLoop ?_
   | refine gw_inBlock ?_
   | refine gw_region_end ?_
   | refine gw_label ?_
   | refine gw_ret ?_
   | (refine gw_region ?_; simp only [List.size_toArray, List.length_cons, List.length_nil, Nat.reduceAdd, Nat.zero_add, List.range, List.range.loop])
   | refine gw_exit rfl ?_
   | refine gw_yes rfl ?_
   | refine gw_no rfl ?_
   | (refine gw_op rfl rfl (by k_ne) (fun wq rq iq Kq hKq => ?_)
      go_simp
      refine hKq _ ?_ ?_
      · intro eq heq
        have hmq := mem_listed heq
        simp [go_sem, *] at hmq
      clear hKq Kq rq iq wq
      try w_num)
   | (refine gw_unwanted rfl rfl ?_; walk_nrm)
   | (refine gw_defer rfl rfl (by k_ne) rfl ?_; walk_nrm))
 refine gw_op rfl rfl (by k_ne) (fun wq rq iq Kq hKq => ?_)
 have hl := cell_rely rq (.inr mf) k0
 go_simp
 refine hKq _ ?_ ?_
 · intro eq heq
   have hmq := mem_listed heq
   simp [go_sem, *] at hmq
   subst hmq
   exact evOk_rd (.inr mf)
 clear hKq Kq hl rq iq wq
 repeat (first
   | refine gw_seq ?_
   | refine gw_skip ?_
   | refine gw_block ?_
   | refine gw_loop ?_
   | refine gw_inLoop ?_
   | refine gw_inBlock ?_
   | refine gw_region_end ?_
   | refine gw_label ?_
   | refine gw_ret ?_
   | (refine gw_region ?_; simp only [List.size_toArray, List.length_cons, List.length_nil, Nat.reduceAdd, Nat.zero_add, List.range, List.range.loop])
   | refine gw_exit rfl ?_
   | refine gw_yes rfl ?_
   | refine gw_no rfl ?_
   | (refine gw_op rfl rfl (by k_ne) (fun wq rq iq Kq hKq => ?_)
      go_simp
      refine hKq _ ?_ ?_
      · intro eq heq
        have hmq := mem_listed heq
        simp [go_sem, *] at hmq
      clear hKq Kq rq iq wq
      try w_num)
   | (refine gw_unwanted rfl rfl ?_; walk_nrm)
   | (refine gw_defer rfl rfl (by k_ne) rfl ?_; walk_nrm))
 subst hm
 exact hk _ ⟨rfl, rfl, rfl, rfl, rfl, rfl, rfl, rfl, rfl, rfl⟩
end
end Go.Proofs.YtajnfkmkombajabDoor
