/-
  sync.WaitGroup in company: Add(1).
  sync.WaitGroup in company: Done, at a worker's end.
  The walk of a goroutine in company: closures, deferred closures, recover, go statements, communications, loads. No program in sight.
  A contract alone, used as a call by a goroutine in company; what is one's own stands aside meanwhile. No program in sight.
-/
import Derived.Test.YtajnfkmkombajabDoorQSD14
set_option linter.unusedVariables false
set_option linter.unusedSimpArgs false
namespace Go.Proofs.YtajnfkmkombajabDoor
open Go Go.Conc Go.ConcN Go.RowKit Go.Conc.Lib Go.ConcR.Gen Go.ConcN.Gen
open Go.ConcR (KK wgBlock WgAt stA smA)
theorem rely_setCell {S M : Nat → Prop} {W : World} {a : Addr} {v : Value} (h : ¬ S a.block ∧ ¬ M a.block) : RelyS S M W (W.setCell a v) := by
 refine ⟨rfl, rfl, rfl, by unfold World.setCell; simp, fun B hB hs => ?_⟩
 unfold World.setCell
 simp only [Array.getElem?_modify]
 rw [if_neg fun q : a.block = B => hs.elim (fun z => h.1 (q ▸ z)) (fun z => h.2 (q ▸ z))]
section
variable {P : Program} {L : WgLink} {F : Farm P} {S M : Nat → Prop} {Next : (Nat → Prop) → Goroutine → World → (Nat → Prop) → Prop} {b₀ : Frame} {a₀ : Act} {ops₀ : Array Oper} {i₀ : Nat} {rest₀ : List Nat} {k₀ : List Item} {cs : List Frame}
set_option maxRecDepth 100000 in
set_option maxHeartbeats 8000000 in
theorem addPosW (H : WgLib P L) (hty : F.ty = L.tWg)
   (hN : ¬ S F.Wg ∧ ¬ M F.Wg) (w : World) (hT : F.Go true S (F.GoS Next S) (G (b₀.at (a₀.put ((ops₀[i₀]?).bind (·.dst)) (.tuple #[])) (.inRegion ops₀ rest₀ :: k₀)) cs) w M) :
   F.Go true S (F.KdS Next S) (G ((base L.add).at ⟨#[.pointer (some ⟨F.Wg, 0, none⟩), .int .i64 1, undef, undef, undef, undef, undef, undef, undef, undef, undef, undef, undef, undef, undef, undef, undef, undef, undef, undef, undef, undef, undef, undef, undef, undef, undef, undef, undef, undef, undef, undef, undef, undef, undef, undef, undef, undef, undef, undef, undef, undef, undef, undef, undef, undef, undef, undef, undef, undef, undef, undef, undef, undef, undef, undef, undef, undef, undef, undef, undef, undef, undef, undef, undef, undef, undef, undef, undef, undef, undef, undef, undef, undef, undef, undef, undef, undef, undef, undef, undef, undef, undef, undef, undef, undef, undef, undef, undef, undef, undef, undef, undef, undef, undef, undef, undef, undef, undef, undef, undef, undef, undef, undef, undef, undef, undef, undef, undef, undef, undef, undef, undef, undef, undef, undef, undef], []⟩ [.code (body_add L)]) (b₀.at a₀ (.inRegion ops₀ (i₀ :: rest₀) :: k₀) :: cs)) w M := by
 lib_facts
 simp only [body_add, addFn, Option.getD_some]
 repeat (first
   | refine gw_seq ?_
   | refine gw_skip ?_
   | refine gw_block ?_
   | refine gw_loop ?_
   | refine gw_inLoop ?_
   | refine gw_inBlock ?_
   | refine gw_region_end ?_
   | refine gw_label ?_
   | refine gw_ret ?_
   | (refine gw_region ?_; simp only [List.size_toArray, List.length_cons, List.length_nil, Nat.reduceAdd, Nat.zero_add, List.range, List.range.loop])
   | refine gw_exit rfl ?_
   | refine gw_yes rfl ?_
   | refine gw_no rfl ?_
   | (refine gw_op rfl rfl (by k_ne) (fun wq _ _ Kq hKq => ?_)
      go_simp
      refine hKq _ ?_ ?_
      · intro eq heq
        have hmq := mem_listed heq
        simp [go_sem, *] at hmq
      clear hKq Kq
      try clear wq
      try w_num)
   | (refine gw_unwanted rfl rfl ?_; walk_nrm)
   | (refine gw_defer rfl rfl (by k_ne) rfl ?_; walk_nrm))
 refine GoesW.stop (fun w₁ r₁ i₁ => ?_)
 replace hT := hT.rely r₁
 clear r₁
 refine ⟨rfl, _, stepG_mark0 .disable (by simp) rfl rfl (by k_ne) rfl H.f_disable (x_disable_n L) (x_disable_b L) (x_disable_x L) (x_disable_f L), ?_⟩
 walk_nrm
 repeat (first
   | refine gw_seq ?_
   | refine gw_skip ?_
   | refine gw_block ?_
   | refine gw_loop ?_
   | refine gw_inLoop ?_
   | refine gw_inBlock ?_
   | refine gw_region_end ?_
   | refine gw_label ?_
   | refine gw_ret ?_
   | (refine gw_region ?_; simp only [List.size_toArray, List.length_cons, List.length_nil, Nat.zero_add, List.range, List.range.loop])
   | refine gw_exit rfl ?_
   | refine gw_yes rfl ?_
   | refine gw_no rfl ?_
   | (refine gw_op rfl rfl (by k_ne) (fun wq _ _ Kq hKq => ?_)
      go_simp
      refine hKq _ ?_ ?_
      · intro eq heq
        have hmq := mem_listed heq
        simp [go_sem, *] at hmq
      clear hKq Kq
      try clear wq
      try w_num)
   | (refine gw_unwanted rfl rfl ?_; walk_nrm)
   | (refine gw_defer rfl rfl (by k_ne) rfl ?_; walk_nrm))
 refine gw_move rfl (fun wq => stepG_entry_pure (.bool false) rfl rfl (by k_ne) rfl H.f_inBubble (x_inBubble_n L) (x_inBubble_b L) (x_inBubble_x L) (x_inBubble_f L)) ?_
 walk_nrm
 repeat (first
   | refine gw_seq ?_
   | refine gw_skip ?_
   | refine gw_block ?_
   | refine gw_loop ?_
   | refine gw_inLoop ?_
   | refine gw_inBlock ?_
   | refine gw_region_end ?_
   | refine gw_label ?_
   | refine gw_ret ?_
   | (refine gw_region ?_; simp only [List.size_toArray, List.length_cons, List.length_nil, Nat.reduceAdd, Nat.zero_add, List.range, List.range.loop])
   | refine gw_exit rfl ?_
   | refine gw_yes rfl ?_
   | refine gw_no rfl ?_
   | (refine gw_op rfl rfl (by k_ne) (fun wq _ _ Kq hKq => ?_)
      go_simp
      refine hKq _ ?_ ?_
      · intro eq heq
        have hmq := mem_listed heq
        simp [go_sem, *] at hmq
      clear hKq Kq
      try clear wq
      try w_num)
   | (refine gw_unwanted rfl rfl ?_; walk_nrm)
   | (refine gw_defer rfl rfl (by k_ne) rfl ?_; walk_nrm))
 refine gw_call rfl rfl (by k_ne) rfl H.f_uAdd (nm_uAdd L) rfl ?_
 walk_nrmf uAddFn
 repeat (first
   | refine gw_seq ?_
   | refine gw_skip ?_
   | refine gw_block ?_
   | refine gw_loop ?_
   | refine gw_inLoop ?_
   | refine gw_inBlock ?_
   | refine gw_region_end ?_
   | refine gw_label ?_
   | refine gw_ret ?_
   | (refine gw_region ?_; simp only [List.size_toArray, List.length_cons, List.length_nil, Nat.reduceAdd, Nat.zero_add, List.range, List.range.loop])
   | refine gw_exit rfl ?_
   | refine gw_yes rfl ?_
   | refine gw_no rfl ?_
   | (refine gw_op rfl rfl (by k_ne) (fun wq _ _ Kq hKq => ?_)
      go_simp
      refine hKq _ ?_ ?_
      · intro eq heq
        have hmq := mem_listed heq
        simp [go_sem, *] at hmq
      clear hKq Kq
      try clear wq
      try w_num)
   | (refine gw_unwanted rfl rfl ?_; walk_nrm)
   | (refine gw_defer rfl rfl (by k_ne) rfl ?_; walk_nrm))
 refine GoesW.stop (fun w₂ r₂ i₂ => ?_)
 replace hT := hT.rely r₂
 clear r₂
 refine ⟨rfl, fun v hv hw => ?_⟩
 rcases Nat.eq_zero_or_pos v with rfl | hvp
 · replace hw : WgAt F.ty F.Wg w₂ 0 0 := by simpa using hw
   have z : (((0 : Nat) : Int) + 1) * KK = KK := by simp
   rw [z]
   have e0 : IntKind.u64.wrap (0 + 4294967296) = KK := by decide
   replace hT := hT.rely (rely_setCell (a := stA F.Wg) (v := .int .u64 KK) hN)
   refine ⟨_, (stepG_add_atomic rfl rfl (by k_ne) rfl H.f_addU64 (x_addU64_n L) (x_addU64_b L) (x_addU64_x L) .u64 (x_addU64_f L) rfl rfl hw.cellSt (hw.thaw 0)).trans (by rw [e0]; rfl), ?_⟩
   clear hw
   simp only [KK]
   walk_nrm
   repeat (first
     | refine gw_seq ?_
     | refine gw_skip ?_
     | refine gw_block ?_
     | refine gw_loop ?_
     | refine gw_inLoop ?_
     | refine gw_inBlock ?_
     | refine gw_region_end ?_
     | refine gw_label ?_
     | refine gw_ret ?_
     | (refine gw_region ?_; simp only [List.size_toArray, List.length_cons, List.length_nil, Nat.reduceAdd, Nat.zero_add, List.range, List.range.loop])
     | refine gw_exit rfl ?_
     | refine gw_yes rfl ?_
     | refine gw_no rfl ?_
     | (refine gw_op rfl rfl (by k_ne) (fun wq _ _ Kq hKq => ?_)
        go_simp
        refine hKq _ ?_ ?_
        · intro eq heq
          have hmq := mem_listed heq
          simp [go_sem, *] at hmq
        clear hKq Kq
        try clear wq
        try w_num)
     | (refine gw_unwanted rfl rfl ?_; walk_nrm)
     | (refine gw_defer rfl rfl (by k_ne) rfl ?_; walk_nrm))
   refine gw_leave1 rfl rfl H.f_uAdd rfl ?_
   walk_nrm
   repeat (first
     | refine gw_seq ?_
     | refine gw_skip ?_
     | refine gw_block ?_
     | refine gw_loop ?_
     | refine gw_inLoop ?_
     | refine gw_inBlock ?_
     | refine gw_region_end ?_
     | refine gw_label ?_
     | refine gw_ret ?_
     | (refine gw_region ?_; simp only [List.size_toArray, List.length_cons, List.length_nil, Nat.reduceAdd, Nat.zero_add, List.range, List.range.loop])
     | refine gw_exit rfl ?_
     | refine gw_yes rfl ?_
     | refine gw_no rfl ?_
     | (refine gw_op rfl rfl (by k_ne) (fun wq _ _ Kq hKq => ?_)
        go_simp
        refine hKq _ ?_ ?_
        · intro eq heq
          have hmq := mem_listed heq
          simp [go_sem, *] at hmq
        clear hKq Kq
        try clear wq
        try w_num)
     | (refine gw_unwanted rfl rfl ?_; walk_nrm)
     | (refine gw_defer rfl rfl (by k_ne) rfl ?_; walk_nrm))
   refine gw_op rfl rfl (by k_ne) (fun wq _ iq Kq hKq => ?_)
   have hcv := run_convert_to_unsafe (P := P) H.underlying_tPU32 H.underlying_tUP H.room_tU32 (WgLive.cell1 iq.1).choose_spec
   have hce := fun es => events_convert_to_unsafe (P := P) H.underlying_tPU32 H.underlying_tUP H.room_tU32 (WgLive.cell1 iq.1).choose_spec es
   go_simp
   refine hKq _ ?_ ?_
   · intro eq heq
     have hmq := mem_listed heq
     simp [go_sem, hce] at hmq
   clear hKq Kq hcv hce iq
   try clear wq
   refine GoesW.stop (fun w₃ r₃ i₃ => ?_)
   replace hT := hT.rely r₃
   clear r₃
   refine .inl ⟨rfl, _, stepG_markAt .read (by simp) rfl rfl (by k_ne) rfl H.f_raceRead (x_raceRead_n L) (x_raceRead_b L) (x_raceRead_x L) (x_raceRead_f L) (ad := ⟨F.Wg, 1, none⟩) (by simp [Act.eval]), ?_⟩
   walk_nrm
   repeat (first
     | refine gw_seq ?_
     | refine gw_skip ?_
     | refine gw_block ?_
     | refine gw_loop ?_
     | refine gw_inLoop ?_
     | refine gw_inBlock ?_
     | refine gw_region_end ?_
     | refine gw_label ?_
     | refine gw_ret ?_
     | (refine gw_region ?_; simp only [List.size_toArray, List.length_cons, List.length_nil, Nat.reduceAdd, Nat.zero_add, List.range, List.range.loop])
     | refine gw_exit rfl ?_
     | refine gw_yes rfl ?_
     | refine gw_no rfl ?_
     | (refine gw_op rfl rfl (by k_ne) (fun wq _ _ Kq hKq => ?_)
        go_simp
        refine hKq _ ?_ ?_
        · intro eq heq
          have hmq := mem_listed heq
          simp [go_sem, *] at hmq
        clear hKq Kq
        try clear wq
        try w_num)
     | (refine gw_unwanted rfl rfl ?_; walk_nrm)
     | (refine gw_defer rfl rfl (by k_ne) rfl ?_; walk_nrm))
   refine GoesW.stop (fun w₄ r₄ i₄ => ?_)
   replace hT := hT.rely r₄
   clear r₄
   refine ⟨rfl, _, stepG_unwind_entry (v := .tuple #[]) (evs := #[Go.ConcR.mk .enable]) rfl H.f_enable (x_enable_n L) (x_enable_b L) (x_enable_x L) (x_enable_f L) (by simp [Extern.Race.none_]) (by simp [Go.ConcR.mk]) (by simp [Go.ConcR.mk]), ?_⟩
   refine gw_leave0 rfl rfl H.f_add rfl ?_
   walk_nrm
   exact hT
 · obtain ⟨V, hV⟩ : ∃ V : Int, V = (v : Int) + 1 := ⟨_, rfl⟩
   obtain ⟨T, hT'⟩ : ∃ T : Int, T = V * KK := ⟨_, rfl⟩
   have eS : IntKind.u64.wrap ((v : Int) * KK + 4294967296) = T := by rw [IntKind.wrap_u64, hT', hV]; simp only [KK]; omega
   rw [← hV, ← hT']
   have a1 : T / 4294967296 = V := by rw [hT']; simp only [KK]; omega
   have b1 : bits .and .u64 T 2147483648 = 0 := by rw [hT', hV]; have := st_flag (v + 1) 0 (by omega) (by omega); simpa [KK] using this
   have b2 : bits .and .u64 T 2147483647 = 0 := by rw [hT', hV]; have := st_waiters (v + 1) 0 (by omega) (by omega); simpa [KK] using this
   have c1 : IntKind.i32.wrap V = V := by rw [IntKind.wrap_i32]; omega
   have hV1 : 1 < V := by omega
   have q1 : (V == 1) = false := by simp; omega
   have q2 : decide (V = 1) = false := decide_eq_false (by omega)
   have q3 : decide (V < 0) = false := decide_eq_false (by omega)
   have q4 : decide (0 < V) = true := decide_eq_true (by omega)
   have q5 : (V == 0) = false := by simp; omega
   have q6 : decide (V = 0) = false := decide_eq_false (by omega)
   replace hT := hT.rely (rely_setCell (a := stA F.Wg) (v := .int .u64 T) hN)
   refine ⟨_, (stepG_add_atomic rfl rfl (by k_ne) rfl H.f_addU64 (x_addU64_n L) (x_addU64_b L) (x_addU64_x L) .u64 (x_addU64_f L) rfl rfl hw.cellSt (hw.thaw 0)).trans (by rw [eS]; rfl), ?_⟩
   clear hw eS hT' hV
   walk_nrm
   repeat (first
     | refine gw_seq ?_
     | refine gw_skip ?_
     | refine gw_block ?_
     | refine gw_loop ?_
     | refine gw_inLoop ?_
     | refine gw_inBlock ?_
     | refine gw_region_end ?_
     | refine gw_label ?_
     | refine gw_ret ?_
     | (refine gw_region ?_; simp only [List.size_toArray, List.length_cons, List.length_nil, Nat.reduceAdd, Nat.zero_add, List.range, List.range.loop])
     | refine gw_exit rfl ?_
     | refine gw_yes rfl ?_
     | refine gw_no rfl ?_
     | (refine gw_op rfl rfl (by k_ne) (fun wq _ _ Kq hKq => ?_)
        go_simp
        refine hKq _ ?_ ?_
        · intro eq heq
          have hmq := mem_listed heq
          simp [go_sem, *] at hmq
        clear hKq Kq
        try clear wq
        try w_num)
     | (refine gw_unwanted rfl rfl ?_; walk_nrm)
     | (refine gw_defer rfl rfl (by k_ne) rfl ?_; walk_nrm))
   refine gw_leave1 rfl rfl H.f_uAdd rfl ?_
   walk_nrm
   repeat (first
     | refine gw_seq ?_
     | refine gw_skip ?_
     | refine gw_block ?_
     | refine gw_loop ?_
     | refine gw_inLoop ?_
     | refine gw_inBlock ?_
     | refine gw_region_end ?_
     | refine gw_label ?_
     | refine gw_ret ?_
     | (refine gw_region ?_; simp only [List.size_toArray, List.length_cons, List.length_nil, Nat.reduceAdd, Nat.zero_add, List.range, List.range.loop])
     | refine gw_exit rfl ?_
     | refine gw_yes rfl ?_
     | refine gw_no rfl ?_
     | (refine gw_op rfl rfl (by k_ne) (fun wq _ _ Kq hKq => ?_)
        go_simp
        refine hKq _ ?_ ?_
        · intro eq heq
          have hmq := mem_listed heq
          simp [go_sem, *] at hmq
        clear hKq Kq
        try clear wq
        try w_num)
     | (refine gw_unwanted rfl rfl ?_; walk_nrm)
     | (refine gw_defer rfl rfl (by k_ne) rfl ?_; walk_nrm))
   refine GoesW.stop (fun w₃ r₃ i₃ => .inr ?_)
   replace hT := hT.rely r₃
   clear r₃
   refine ⟨rfl, _, stepG_unwind_entry (v := .tuple #[]) (evs := #[Go.ConcR.mk .enable]) rfl H.f_enable (x_enable_n L) (x_enable_b L) (x_enable_x L) (x_enable_f L) (by simp [Extern.Race.none_]) (by simp [Go.ConcR.mk]) (by simp [Go.ConcR.mk]), ?_⟩
   refine gw_leave0 rfl rfl H.f_add rfl ?_
   walk_nrm
   exact hT
end
end Go.Proofs.YtajnfkmkombajabDoor
namespace Go.Proofs.YtajnfkmkombajabDoor
open Go Go.Conc Go.ConcN Go.RowKit Go.Conc.Lib Go.ConcR.Gen Go.ConcN.Gen
open Go.ConcR (KK wgBlock WgAt stA smA DC0)
def noneL : Nat → Loc → Prop := fun _ _ => False
def KitR (P : Program) (F : Farm P) (C : Nat) (val : Value) (g : Goroutine) (W : World) : Prop :=
 ∃ m, Goes P false (RW F.ty F.Wg C 0 0 0) (DWs F.Wg noneL noneL C 0 1) (AtR0 P F.ty F.Wg C 0 0 1 val) m g W
section
variable {P : Program} {F : Farm P} {S M : Nat → Prop} {C : Nat} {val : Value} {g g' : Goroutine} {W W' : World} {es : Array Event}
theorem KitR.next (h : KitR P F C val g W) (hs : stepG P false g W = .go g' W' es) (hne : es ≠ #[Go.ConcR.mk (.releaseMerge (stA F.Wg))]) : KitR P F C val g' W' := by
 obtain ⟨m, h⟩ := h
 have no : AtR0 P F.ty F.Wg C 0 0 1 val g W → False := fun q => by
   obtain ⟨-, -, g2, h2, -⟩ := q
   rw [hs] at h2
   simp only [GStep.go.injEq] at h2
   exact hne h2.2.2
 cases m with
 | zero => exact (no (h W (RW.refl W))).elim
 | succ m =>
   rcases h with hst | ⟨-, hst⟩
   · exact (no (hst W (RW.refl W))).elim
   · have := hst W (RW.refl W)
     rw [hs] at this
     exact ⟨m, this.2⟩
theorem GoesW.kit {Stop : Goroutine → World → (Nat → Prop) → Prop} (hC : S C) (h : GoesW P false F.I S Stop g W M) : ¬ M C → Has C 0 val W → KitR P F C val g W →
   GoesW P false F.I S (fun g W M => Stop g W M ∧ Has C 0 val W ∧ KitR P F C val g W) g W M := by
 induction h with
 | stop h => intro hM hh ⟨m, hk⟩; exact .stop fun W1 r i => ⟨h W1 r i, (rw_of (n := 0) hC hh r i).2, m, Goes.rely rw_trans hk (rw_of hC hh r i).1⟩
 | @step g W M hs h k ih =>
   intro hM hh ⟨m, hk⟩
   refine .step hs h fun W1 r i g' W' es hg => ?_
   obtain ⟨r1, hh1⟩ := rw_of (n := 0) hC hh r i
   obtain ⟨g2, W2, es2, e1, e2, e3⟩ := h W1 r i
   rw [e1] at hg
   cases hg
   have hlt := has_lt hh1
   refine ih W1 r i _ _ _ e1 (fun q => q.elim hM fun q => by omega) ?_ (KitR.next ⟨m, Goes.rely rw_trans hk r1⟩ e1 fun q => ?_)
   · unfold Has at hh1 ⊢
     exact (cell_of_block (e2.keep C hlt hM) 0).trans hh1
   · have := e3 (Go.ConcR.mk (.releaseMerge (stA F.Wg))) (by rw [q]; simp)
     exact absurd this (by simp [EvOk, Go.ConcR.mk, idleMark])
inductive Mutes1 (P : Program) : Goroutine → Prop
 | off {g g' : Goroutine} (h : ∀ W, stepG P false g W = .go g' W #[Go.ConcR.mk .disable]) : Mutes1 P g
 | idle {g g' : Goroutine} (h : ∀ W, stepG P false g W = .go g' W #[]) (k : Mutes1 P g') : Mutes1 P g
theorem Mutes1.no (h : Mutes1 P g) : KitR P F C val g W → False := by
 induction h with
 | off h =>
   intro ⟨m, hk⟩
   have no : AtR0 P F.ty F.Wg C 0 0 1 val _ W → False := fun q => by
     obtain ⟨-, -, g2, h2, -⟩ := q
     rw [h W] at h2
     simp only [GStep.go.injEq] at h2
     have := congrArg (fun x => x[0]?) h2.2.2
     simp [Go.ConcR.mk] at this
   cases m with
   | zero => exact no (hk W (RW.refl W))
   | succ m =>
     rcases hk with hst | ⟨-, hst⟩
     · exact no (hst W (RW.refl W))
     · have := hst W (RW.refl W)
       rw [h W] at this
       exact (this.1.2 (Go.ConcR.mk .disable) (by simp)).2.1 rfl
 | idle h k ih => intro hk; exact ih (hk.next (h W) (by simp))
theorem r0_of (hs : g.status = .running) (hC : S C) (hh : Has C 0 val W) (h1 : stepG P false g W = .go g' W #[Go.ConcR.mk (.releaseMerge (stA F.Wg))]) (h2 : Mutes1 P g') (hk : KitR P F C val g W) : F.R0 S g W M := by
 obtain ⟨m, hk⟩ := hk
 cases m with
 | zero => exact ⟨C, 0, val, hC, hk W (RW.refl W)⟩
 | succ m =>
   rcases hk with hst | ⟨-, hst⟩
   · exact ⟨C, 0, val, hC, hst W (RW.refl W)⟩
   · have := hst W (RW.refl W)
     rw [h1] at this
     exact (h2.no ⟨m, this.2⟩).elim
theorem r0_way (hC : S C) (hM : ¬ M C) (hh : Has C 0 val W) (hk : KitR P F C val g W) (h : GoesW P false F.I S (fun g W _ => g.status = .running ∧ ∃ g', stepG P false g W = .go g' W #[Go.ConcR.mk (.releaseMerge (stA F.Wg))] ∧ Mutes1 P g') g W M) : F.Go false S (F.R0 S) g W M :=
 (h.kit hC hM hh hk).mono fun _ _ _ ⟨⟨h1, _, h2, h3⟩, h4, h5⟩ _ => r0_of h1 hC h4 h2 h3 h5
end
section
variable {P : Program} {L : WgLink} {F : Farm P} {S M : Nat → Prop} {b₀ : Frame} {a₀ : Act} {ops₀ : Array Oper} {i₀ : Nat} {rest₀ : List Nat} {k₀ : List Item} {cs : List Frame}
set_option maxRecDepth 100000 in
set_option maxHeartbeats 8000000 in
theorem doneW (H : WgLib P L) (hty : F.ty = L.tWg) {C : Nat} {val : Value} (hC : S C) {qt : Nat} (hT : QuitsD P qt 0 (G (b₀.at (a₀.put ((ops₀[i₀]?).bind (·.dst)) (.tuple #[])) (.inRegion ops₀ rest₀ :: k₀)) cs)) (w : World) (hI : F.I w) (hM : ¬ M C) (hh : Has C 0 val w) :
   F.Go false S (F.R0 S) (G ((base L.done).at ⟨#[.pointer (some ⟨F.Wg, 0, none⟩), undef, undef, undef], []⟩ [.code (body_done L)]) (b₀.at a₀ (.inRegion ops₀ (i₀ :: rest₀) :: k₀) :: cs)) w M := by
 lib_facts
 have hA := @addNegN _ L P H noneL noneL F.Wg C 0 0 1 val
 simp only [body_done, body_add, doneFn, addFn, Option.getD_some] at hA ⊢
 refine gw_region ?_
 simp only [List.size_toArray, List.length_cons, List.length_nil, Nat.reduceAdd, Nat.zero_add, List.range, List.range.loop]
 (refine gw_op rfl rfl (by k_ne) (fun wq _ _ Kq hKq => ?_)
  go_simp
  refine hKq _ ?_ ?_
  · intro eq heq
    have hmq := mem_listed heq
    simp [go_sem, *] at hmq
  clear hKq Kq
  try clear wq
  try w_num)
 refine gw_call rfl rfl (by k_ne) rfl H.f_add (nm_add L) rfl ?_
 walk_nrmf addFn
 refine r0_way hC hM hh ⟨20, ?_⟩ ?_
 · rw [hty]
   refine hA (qt := qt + 3) ?_ w ⟨hty ▸ hI.1, hh⟩
   q_c stepG_region_end
   q_c stepG_end
   exact QuitsD.leave0 rfl rfl H.f_done rfl hT
 · clear hA
   repeat (first
     | refine gw_seq ?_
     | refine gw_skip ?_
     | refine gw_block ?_
     | refine gw_loop ?_
     | refine gw_inLoop ?_
     | refine gw_inBlock ?_
     | refine gw_region_end ?_
     | refine gw_label ?_
     | refine gw_ret ?_
     | (refine gw_region ?_; simp only [List.size_toArray, List.length_cons, List.length_nil, Nat.reduceAdd, Nat.zero_add, List.range, List.range.loop])
     | refine gw_exit rfl ?_
     | refine gw_yes rfl ?_
     | refine gw_no rfl ?_)
   (refine gw_op rfl rfl (by k_ne) (fun wq _ _ Kq hKq => ?_)
    go_simp
    refine hKq _ ?_ ?_
    · intro eq heq
      have hmq := mem_listed heq
      simp [go_sem, *] at hmq
    clear hKq Kq
    try clear wq
    try w_num)
   (refine gw_op rfl rfl (by k_ne) (fun wq _ _ Kq hKq => ?_)
    go_simp
    refine hKq _ ?_ ?_
    · intro eq heq
      have hmq := mem_listed heq
      simp [go_sem, *] at hmq
    clear hKq Kq
    try clear wq
    try w_num)
   repeat (first
     | refine gw_seq ?_
     | refine gw_skip ?_
     | refine gw_block ?_
     | refine gw_loop ?_
     | refine gw_inLoop ?_
     | refine gw_inBlock ?_
     | refine gw_region_end ?_
     | refine gw_label ?_
     | refine gw_ret ?_
     | (refine gw_region ?_; simp only [List.size_toArray, List.length_cons, List.length_nil, Nat.reduceAdd, Nat.zero_add, List.range, List.range.loop])
     | refine gw_exit rfl ?_
     | refine gw_yes rfl ?_
     | refine gw_no rfl ?_)
   (refine gw_op rfl rfl (by k_ne) (fun wq _ _ Kq hKq => ?_)
    go_simp
    refine hKq _ ?_ ?_
    · intro eq heq
      have hmq := mem_listed heq
      simp [go_sem, *] at hmq
    clear hKq Kq
    try clear wq
    try w_num)
   refine gw_op rfl rfl (by k_ne) (fun wq _ iq Kq hKq => ?_)
   have hcv := run_convert_to_unsafe (P := P) H.underlying_tWgP H.underlying_tUP H.room_tWg (WgLive.cell0 iq.1).choose_spec
   have hce := fun es => events_convert_to_unsafe (P := P) H.underlying_tWgP H.underlying_tUP H.room_tWg (WgLive.cell0 iq.1).choose_spec es
   go_simp
   refine hKq _ ?_ ?_
   · intro eq heq
     have hmq := mem_listed heq
     simp [go_sem, hce] at hmq
   clear hKq Kq hcv hce iq
   try clear wq
   refine GoesW.stop (fun w₁ r₁ i₁ => ?_)
   refine ⟨rfl, _, stepG_markAt .releaseMerge (by simp) rfl rfl (by k_ne) rfl H.f_relMerge (x_relMerge_n L) (x_relMerge_b L) (x_relMerge_x L) (x_relMerge_f L) (by simp [Act.eval, stA]), ?_⟩
   walk_nrm
   refine .idle (fun _ => stepG_region_end) ?_
   refine .idle (fun _ => stepG_seq) ?_
   refine .idle (fun _ => stepG_region) ?_
   simp only [List.size_toArray, List.length_cons, List.length_nil, Nat.zero_add, List.range, List.range.loop]
   exact .off (fun _ => stepG_mark0 .disable (by simp) rfl rfl (by k_ne) rfl H.f_disable (x_disable_n L) (x_disable_b L) (x_disable_x L) (x_disable_f L))
end
end Go.Proofs.YtajnfkmkombajabDoor
namespace Go.Proofs.YtajnfkmkombajabDoor
open Go Go.Conc
section
variable {P : Program} {mn : Bool} {I : World → Prop} {S M : Nat → Prop} {Stop : Goroutine → World → (Nat → Prop) → Prop} {b : Frame} {a : Act} {k : List Item} {cs : List Frame} {W : World} {ops : Array Oper} {i : Nat} {rest : List Nat} {o : Oper}
theorem cell_rely {W1 : World} (r : RelyS S M W W1) {p : Addr} {v : Value} (hp : S p.block ∨ M p.block) (h : W.cell? p = some v) : W1.cell? p = some v := by
 have hlt : p.block < W.heap.size := by
   unfold World.cell? at h
   rcases Nat.lt_or_ge p.block W.heap.size with q | q
   · exact q
   · rw [Array.getElem?_eq_none q] at h; cases h
 unfold World.cell? at h ⊢
 rw [r.keep _ hlt hp]; exact h
theorem evOk_rd {p : Addr} (hp : S p.block ∨ M p.block) : EvOk S M ⟨.cell p, false, false⟩ := ⟨rfl, by rw [if_neg (by simp)]; exact hp⟩
theorem evOk_wr {p : Addr} (hp : M p.block) : EvOk S M ⟨.cell p, true, false⟩ := ⟨rfl, by rw [if_pos rfl]; exact hp⟩
theorem gw_val {v : Value} (ho : ops[i]? = some o) (hw : Region.wanted o (yielded ops a.tmps) = true) (hk : b.kind ≠ .early) (hr : ∀ w, (execOp a.eval o).run P w = .ok (.value v) w) (he : ∀ w, (execOp a.eval o).events P w #[] = #[])
   (h : GoesW P mn I S Stop (G (b.at (a.put o.dst v) (.inRegion ops rest :: k)) cs) W M) : GoesW P mn I S Stop (G (b.at a (.inRegion ops (i :: rest) :: k)) cs) W M :=
 gw_move rfl (fun w => by rw [stepG_value ho hw hk (hr w), listed, he w, seen_none]) h
theorem run_callv {x : Operand} {args : Array Operand} {ats : Array TypeId} {f : FuncId} {fn : Func} {c : Code} {first cap : Array Value} (hop : o.op = .call { callee := .value x, args, argTypes := ats }) (hx : a.eval x = .func (.func f) first cap)
   (hf : P.funcs[f]? = some fn) (hname : (fn.name == "runtime.NumGoroutine") = false) (hb : fn.body = some c) (w : World) :
   (execOp a.eval o).run P w = .ok (.enter f (first ++ args.map a.eval ++ cap)) w ∧ (execOp a.eval o).events P w #[] = #[] := by
 have h1 : ¬ fn.name = "runtime.NumGoroutine" := by simpa using hname
 unfold execOp
 simp [hop, resolve, Deferred.ofValue, hx, invoke, callFunc, hf, h1, hb]
theorem gw_callv {x : Operand} {args : Array Operand} {ats : Array TypeId} {f : FuncId} {fn : Func} {c : Code} {first cap : Array Value} (ho : ops[i]? = some o) (hw : Region.wanted o (yielded ops a.tmps) = true) (hk : b.kind ≠ .early)
   (hop : o.op = .call { callee := .value x, args, argTypes := ats }) (hx : a.eval x = .func (.func f) first cap) (hf : P.funcs[f]? = some fn) (hname : (fn.name == "runtime.NumGoroutine") = false) (hb : fn.body = some c)
   (h : GoesW P mn I S Stop (G (Frame.enter P f (first ++ args.map a.eval ++ cap) .normal) (b.at a (.inRegion ops (i :: rest) :: k) :: cs)) W M) : GoesW P mn I S Stop (G (b.at a (.inRegion ops (i :: rest) :: k)) cs) W M :=
 gw_move rfl (fun w => by
   obtain ⟨h1, h2⟩ := run_callv (P := P) hop hx hf hname hb w
   rw [stepG_enter ho hw hk h1, listed, h2, seen_none]) h
theorem run_deferv {x : Operand} {args : Array Operand} {ats : Array TypeId} {f : FuncId} {first cap : Array Value} (hop : o.op = .defer { callee := .value x, args, argTypes := ats }) (hx : a.eval x = .func (.func f) first cap) (w : World) :
   (execOp a.eval o).run P w = .ok (.defer { target := .fn (.func f) cap, args := first ++ args.map a.eval }) w ∧ (execOp a.eval o).events P w #[] = #[] := by
 unfold execOp
 simp [hop, resolve, Deferred.ofValue, hx]
theorem gw_deferv {x : Operand} {args : Array Operand} {ats : Array TypeId} {f : FuncId} {first cap : Array Value} (ho : ops[i]? = some o) (hw : Region.wanted o (yielded ops a.tmps) = true) (hk : b.kind ≠ .early)
   (hop : o.op = .defer { callee := .value x, args, argTypes := ats }) (hx : a.eval x = .func (.func f) first cap)
   (h : GoesW P mn I S Stop (G (b.at (Act.put ⟨a.tmps, { target := .fn (.func f) cap, args := first ++ args.map a.eval } :: a.defers⟩ o.dst undef) (.inRegion ops rest :: k)) cs) W M) : GoesW P mn I S Stop (G (b.at a (.inRegion ops (i :: rest) :: k)) cs) W M :=
 gw_move rfl (fun w => by
   obtain ⟨h1, h2⟩ := run_deferv (P := P) hop hx w
   have hfin : (b.at ⟨a.tmps, { target := .fn (.func f) cap, args := first ++ args.map a.eval } :: a.defers⟩ (.inRegion ops (i :: rest) :: k)).finish undef = b.at (Act.put ⟨a.tmps, { target := .fn (.func f) cap, args := first ++ args.map a.eval } :: a.defers⟩ o.dst undef) (.inRegion ops rest :: k) := by rw [Frame.finish_at, ho]; rfl
   have hk' : (b.kind == CallKind.early) = false := by simpa using hk
   rw [stepG_oper ho hw, ← hfin]
   simp [stepG.apply, h1, h2, G, Frame.at, hk', GStep.after, seen_none]) h
theorem gw_unwind {f : FuncId} {fn : Func} {c : Code} {args cap : Array Value} {todo : List Item} {ds : List Deferred} {md : FrameMode} (hmd : md ≠ .run) (hd : a.defers = { target := .fn (.func f) cap, args } :: ds) (hf : P.funcs[f]? = some fn) (hname : (fn.name == "runtime.NumGoroutine") = false) (hb : fn.body = some c)
   (h : GoesW P mn I S Stop (G (Frame.enter P f (args ++ cap) .deferred) ({ b.at ⟨a.tmps, ds⟩ todo with mode := md } :: cs)) W M) : GoesW P mn I S Stop (G { b.at a todo with mode := md } cs) W M :=
 gw_move rfl (fun w => by
   have h1 : ¬ fn.name = "runtime.NumGoroutine" := by simpa using hname
   cases md <;> first | exact absurd rfl hmd | skip
   all_goals simp [G, stepG, unwind, callDeferred, Frame.at, hd, invoke, callFunc, hf, h1, hb, GStep.after, seen_none]) h
theorem gw_recover {args : Array Operand} {ats : Array TypeId} {c : Frame} (ho : ops[i]? = some o) (hw : Region.wanted o (yielded ops a.tmps) = true) (hk : b.kind = .deferred) (hc : c.mode = .returning) (hop : o.op = .call { callee := .builtin .recover, args, argTypes := ats })
   (h : GoesW P mn I S Stop (G (b.at (a.put o.dst .nilIface) (.inRegion ops rest :: k)) (c :: cs)) W M) : GoesW P mn I S Stop (G (b.at a (.inRegion ops (i :: rest) :: k)) (c :: cs)) W M :=
 gw_move rfl (fun w => by
   have h1 : (execOp a.eval o).run P w = .ok .recover w ∧ (execOp a.eval o).events P w #[] = #[] := by
     unfold execOp
     simp [hop, resolve, invoke, builtin]
   have hfin : (b.at a (.inRegion ops (i :: rest) :: k)).finish .nilIface = b.at (a.put o.dst .nilIface) (.inRegion ops rest :: k) := by rw [Frame.finish_at, ho]; rfl
   rw [stepG_oper ho hw, ← hfin]
   have hq : tryRecover (b.at a (.inRegion ops (i :: rest) :: k)) (c :: cs) = none := by
     simp [tryRecover, Frame.at, hk, hc]
   simp only [Frame.at, hk] at hq ⊢
   simp [stepG.apply, h1.1, h1.2, G, GStep.after, seen_none, hq]) h
theorem run_gov {x : Operand} {args : Array Operand} {ats : Array TypeId} {f : FuncId} {first cap : Array Value} (hop : o.op = .go { callee := .value x, args, argTypes := ats }) (hx : a.eval x = .func (.func f) first cap) (w : World) :
   (execOp a.eval o).run P w = .ok (.spawn { target := .fn (.func f) cap, args := first ++ args.map a.eval }) w ∧ (execOp a.eval o).events P w #[] = #[] := by
 unfold execOp
 simp [hop, resolve, Deferred.ofValue, hx]
theorem stepG_gov {x : Operand} {args : Array Operand} {ats : Array TypeId} {f : FuncId} {first cap : Array Value} (ho : ops[i]? = some o) (hw : Region.wanted o (yielded ops a.tmps) = true) (hk : b.kind ≠ .early)
   (hop : o.op = .go { callee := .value x, args, argTypes := ats }) (hx : a.eval x = .func (.func f) first cap) (w : World) :
   stepG P mn (G (b.at a (.inRegion ops (i :: rest) :: k)) cs) w = .spawn (G (b.at (a.put o.dst undef) (.inRegion ops rest :: k)) cs) (born P { target := .fn (.func f) cap, args := first ++ args.map a.eval }) w #[] := by
 obtain ⟨h1, h2⟩ := run_gov (P := P) hop hx w
 rw [stepG_spawn ho hw hk h1 rfl, listed, h2, seen_none]
def botF (P : Program) : Frame := { (default : Frame) with fn := P.funcs.size, defers := [], mode := .panicking [goexitEntry] }
theorem gw_born {f : FuncId} {fn : Func} {c : Code} {args cap : Array Value} (hf : P.funcs[f]? = some fn) (hname : (fn.name == "runtime.NumGoroutine") = false) (hb : fn.body = some c)
   (h : GoesW P false I S Stop (G (Frame.enter P f (args ++ cap) .deferred) [botF P]) W M) : GoesW P false I S Stop (born P { target := .fn (.func f) cap, args }) W M :=
 gw_move rfl (fun w => by
   have h1 : ¬ fn.name = "runtime.NumGoroutine" := by simpa using hname
   have hs : P.funcs[P.funcs.size]? = none := Array.getElem?_eq_none (Nat.le_refl _)
   simp [born, G, stepG, unwind, callDeferred, invoke, callFunc, hf, h1, hb, GStep.after, seen, botF]) h
theorem quits_bottom {fn : Func} {todo : List Item} {T : Array Value} (hn : b.kind = .deferred) (hf : P.funcs[b.fn]? = some fn) (hr : fn.results = #[]) : QuitsD P 2 0 (G { b.at ⟨T, []⟩ todo with mode := .returning } [botF P]) := by
 refine QuitsD.ctl (g' := G (botF P) []) rfl (fun w => ?_) ?_
 · simp [G, stepG, unwind, doReturn, Frame.at, hn, hf, hr, results, seen, GStep.after, botF, goexitEntry]
 · refine QuitsD.ctl (g' := { G (botF P) [] with status := .finished }) rfl (fun w => ?_) ⟨rfl, rfl⟩
   simp [G, stepG, unwind, botF, goexitEntry, Frame.catches]
   rfl
end
/-! communications -/
section
variable {P : Program} {mn : Bool} {b : Frame} {a : Act} {k : List Item} {cs : List Frame} {ops : Array Oper} {i : Nat} {rest : List Nat} {o : Oper}
theorem stepG_recv {x : Operand} {t e : TypeId} {dir : ChanDir} {ti : TypeInfo} {z : Value} {c : Nat} (ho : ops[i]? = some o) (hw : Region.wanted o (yielded ops a.tmps) = true) (hk : b.kind ≠ .early) (hop : o.op = .recv t x true) (hx : a.eval x = .chan (some c))
   (ht : P.underlying t = some (.chan dir e)) (hi : P.info? e = some ti) (hz : ti.zero = some z) (w : World) :
   stepG P mn (G (b.at a (.inRegion ops (i :: rest) :: k)) cs) w = .comm (G (b.at a (.inRegion ops (i :: rest) :: k)) cs) #[rcase c z] true (.recv true) w #[] := by
 have h1 : (execOp a.eval o).run P w = .ok (.comm #[rcase c z] true (.recv true)) w ∧ (execOp a.eval o).events P w #[] = #[] := by
   unfold execOp
   simp [hop, hx, underlying, ht, zeroValue, typeInfo, hi, hz, rcase]
 rw [stepG_comm ho hw hk h1.1, listed, h1.2, seen_none]
theorem stepG_send {x y : Operand} {v : Value} {c : Nat} (ho : ops[i]? = some o) (hw : Region.wanted o (yielded ops a.tmps) = true) (hk : b.kind ≠ .early) (hop : o.op = .send x y) (hx : a.eval x = .chan (some c)) (hy : a.eval y = v) (w : World) :
   stepG P mn (G (b.at a (.inRegion ops (i :: rest) :: k)) cs) w = .comm (G (b.at a (.inRegion ops (i :: rest) :: k)) cs) #[scase c v (.tuple #[])] true .send w #[] := by
 have h1 : (execOp a.eval o).run P w = .ok (.comm #[scase c v (.tuple #[])] true .send) w ∧ (execOp a.eval o).events P w #[] = #[] := by
   unfold execOp
   simp [hop, hx, hy, scase]
 rw [stepG_comm ho hw hk h1.1, listed, h1.2, seen_none]
theorem stepG_select2 {x1 x2 y1 : Operand} {e1 e2 : TypeId} {t1 t2 : TypeInfo} {z1 z2 : Value} (ho : ops[i]? = some o) (hw : Region.wanted o (yielded ops a.tmps) = true) (hk : b.kind ≠ .early)
   (hop : o.op = .select #[{ chan := x1, send := some y1, elem := e1 }, { chan := x2, send := none, elem := e2 }] true) (h1 : P.info? e1 = some t1) (hz1 : t1.zero = some z1) (h2 : P.info? e2 = some t2) (hz2 : t2.zero = some z2) (w : World) :
   stepG P mn (G (b.at a (.inRegion ops (i :: rest) :: k)) cs) w = .comm (G (b.at a (.inRegion ops (i :: rest) :: k)) cs) #[{ chan := a.eval x1, send := some (a.eval y1), zero := z1 }, { chan := a.eval x2, send := none, zero := z2 }] true .select w #[] := by
 have h : (execOp a.eval o).run P w = .ok (.comm #[{ chan := a.eval x1, send := some (a.eval y1), zero := z1 }, { chan := a.eval x2, send := none, zero := z2 }] true .select) w ∧ (execOp a.eval o).events P w #[] = #[] := by
   unfold execOp
   simp [hop, zeroValue, typeInfo, h1, hz1, h2, hz2]
 rw [stepG_comm ho hw hk h.1, listed, h.2, seen_none]
end
end Go.Proofs.YtajnfkmkombajabDoor
namespace Go.Proofs.YtajnfkmkombajabDoor
open Go Go.Conc
def NoTurn {α : Type} (P : Program) : Sem α → Prop
 | .pure _ | .halt _ => True
 | .load _ _ k => ∀ v, NoTurn P (k v)
 | .program k => NoTurn P (k P)
 | _ => False
theorem NoTurn.bind {α β : Type} {P : Program} {f : α → Sem β} : ∀ {s : Sem α}, NoTurn P s → (∀ a, NoTurn P (f a)) → NoTurn P (s.bind f) := by
 intro s
 induction s with
 | pure a => intro _ hf; exact hf a
 | halt h => intro _ _; trivial
 | load m a k ih => intro h hf v; exact ih v (h v) hf
 | program k ih => intro h hf; exact ih P h hf
 | _ => intro h; exact h.elim
theorem NoTurn.world {α : Type} {P : Program} : ∀ {s : Sem α}, NoTurn P s → ∀ (w : World) (es : Array Event), Go.Result.world (s.runT P w es).1 = w := by
 intro s
 induction s with
 | pure a => intro _ w es; rfl
 | halt h => intro _ w es; rfl
 | load m a k ih =>
   intro h w es
   simp only [Sem.runT]
   split
   · exact ih _ (h _) _ _
   · split
     · exact ih _ (h _) _ _
     · rfl
 | program k ih => intro h w es; exact ih P h w es
 | _ => intro h; exact h.elim
section
variable {P : Program}
theorem nt_underlying (t : TypeId) : NoTurn P (underlying t) := by
 show NoTurn P (((match P.underlying t with | some d => pure d | none => stuck "no such type" : Sem TypeDesc)))
 cases P.underlying t <;> trivial
theorem nt_typeInfo (t : TypeId) : NoTurn P (typeInfo t) := by
 show NoTurn P (((match P.info? t with | some d => pure d | none => stuck "no such type" : Sem TypeInfo)))
 cases P.info? t <;> trivial
theorem nt_asAddr (v : Value) : NoTurn P (asAddr v) := by
 cases v with
 | pointer a => cases a <;> trivial
 | _ => trivial
theorem nt_loadFrom (a : Addr) : ∀ (n i : Nat) (acc : Array Value), NoTurn P (loadCellsFrom a i n acc)
 | 0, _, _ => trivial
 | n + 1, i, acc => fun v => nt_loadFrom a n (i + 1) (acc.push v)
theorem nt_loadVar (t : TypeId) (a : Addr) : NoTurn P (loadVar t a) := by
 unfold loadVar
 refine NoTurn.bind (s := isAgg t) ?_ fun b => ?_
 · unfold isAgg
   refine NoTurn.bind (s := underlying t) (nt_underlying t) fun d => ?_
   cases d <;> trivial
 · cases b with
   | true => exact NoTurn.bind (s := sizeOf t) (NoTurn.bind (s := typeInfo t) (nt_typeInfo t) fun _ => trivial) fun n => NoTurn.bind (s := loadCells a n) (nt_loadFrom a n 0 #[]) fun _ => trivial
   | false => exact fun v => trivial
theorem nt_mapM {α : Type} {g : α → Sem Value} (h : ∀ x, NoTurn P (g x)) : ∀ (l : List α), NoTurn P (l.mapM g)
 | [] => by rw [List.mapM_nil]; trivial
 | x :: l => by
   rw [List.mapM_cons]
   exact NoTurn.bind (s := g x) (h x) fun v => NoTurn.bind (s := l.mapM g) (nt_mapM h l) fun _ => trivial
theorem nt_results (fd : Func) (T : Array Value) : NoTurn P (results fd T) := by
 unfold results
 rw [Array.mapM_eq_mapM_toList, map_eq_pure_bind]
 refine NoTurn.bind (NoTurn.bind (s := fd.results.toList.mapM _) (nt_mapM (fun x => ?_) _) fun _ => trivial) fun _ => trivial
 cases x with
 | tmp t => trivial
 | cell a u => exact NoTurn.bind (s := asAddr (T.getD a undef)) (nt_asAddr _) fun b => nt_loadVar u b
end
section
variable {P : Program} {mn : Bool} {I : World → Prop} {good : FuncId → Bool} {Gl : Gs} {Zo : Olds} {S : Nat → Prop} {ρ0 : Rho} {Post : Value → World → Prop} {Base Cs : List Frame} {C : Frame} {Stop : Goroutine → World → (Nat → Prop) → Prop} {g : Goroutine} {W : World} {M : Nat → Prop}
end
end Go.Proofs.YtajnfkmkombajabDoor
