/-
  sync.WaitGroup in company: Wait.
  side.all: the close, the wait, the return.
-/
import Derived.Test.YtajnfkmkombajabDoorQSD15
import Derived.Test.YtajnfkmkombajabDoorQSD19
import Derived.Conc.TokenWalk
set_option linter.unusedVariables false
set_option linter.unusedSimpArgs false
namespace Go.Proofs.YtajnfkmkombajabDoor
open Go Go.Conc Go.ConcN Go.RowKit Go.Conc.Lib Go.ConcR.Gen Go.ConcN.Gen
open Go.ConcR (KK wgBlock WgAt stA smA)
def AnchW (P : Program) (L : WgLink) (F : Farm P) (S : Nat → Prop) (g : Goroutine) (w : World) (M : Nat → Prop) : Prop :=
 ∃ (T : Array Value) (b₀ : Frame) (a₀ : Act) (ops₀ : Array Oper) (i₀ : Nat) (rest₀ : List Nat) (k₀ : List Item) (cs : List Frame),
   g = G ((base L.wait).at ⟨T, []⟩ [.code (L7 L), .inLoop (L7 L), .inBlock 0]) (b₀.at a₀ (.inRegion ops₀ (i₀ :: rest₀) :: k₀) :: cs) ∧ T.size = 84 ∧ T[0]? = some (.pointer (some ⟨F.Wg, 0, none⟩)) ∧ (¬ S F.Wg ∧ ¬ M F.Wg) ∧
     F.Go true S (F.Ret S) (G (b₀.at (a₀.put ((ops₀[i₀]?).bind (·.dst)) (.tuple #[])) (.inRegion ops₀ rest₀ :: k₀)) cs) w M
section
variable {P : Program} {L : WgLink} {F : Farm P} {S M : Nat → Prop}
set_option maxRecDepth 100000 in
theorem waitStartW (H : WgLib P L) (hA : ∀ g w M, AnchW P L F S g w M → F.Anch S g w M) {b₀ : Frame} {a₀ : Act} {ops₀ : Array Oper} {i₀ : Nat} {rest₀ : List Nat} {k₀ : List Item} {cs : List Frame} (hN : ¬ S F.Wg ∧ ¬ M F.Wg) (w : World)
   (hT : F.Go true S (F.Ret S) (G (b₀.at (a₀.put ((ops₀[i₀]?).bind (·.dst)) (.tuple #[])) (.inRegion ops₀ rest₀ :: k₀)) cs) w M) :
   F.Go true S (F.Kd S) (G ((base L.wait).at ⟨#[.pointer (some ⟨F.Wg, 0, none⟩), undef, undef, undef, undef, undef, undef, undef, undef, undef, undef, undef, undef, undef, undef, undef, undef, undef, undef, undef, undef, undef, undef, undef, undef, undef, undef, undef, undef, undef, undef, undef, undef, undef, undef, undef, undef, undef, undef, undef, undef, undef, undef, undef, undef, undef, undef, undef, undef, undef, undef, undef, undef, undef, undef, undef, undef, undef, undef, undef, undef, undef, undef, undef, undef, undef, undef, undef, undef, undef, undef, undef, undef, undef, undef, undef, undef, undef, undef, undef, undef, undef, undef, undef], []⟩ [.code (body_wait L)]) (b₀.at a₀ (.inRegion ops₀ (i₀ :: rest₀) :: k₀) :: cs)) w M := by
 lib_facts
 simp only [body_wait, waitFn, Option.getD_some]
 repeat (first
   | refine gw_seq ?_
   | refine gw_skip ?_
   | refine gw_block ?_
   | refine gw_loop ?_
   | refine gw_inLoop ?_
   | refine gw_inBlock ?_
   | refine gw_region_end ?_
   | refine gw_label ?_
   | refine gw_ret ?_
   | (refine gw_region ?_; simp only [List.size_toArray, List.length_cons, List.length_nil, Nat.reduceAdd, Nat.zero_add, List.range, List.range.loop])
   | refine gw_exit rfl ?_
   | refine gw_yes rfl ?_
   | refine gw_no rfl ?_
   | (refine gw_op rfl rfl (by k_ne) (fun wq _ _ Kq hKq => ?_)
      go_simp
      refine hKq _ ?_ ?_
      · intro eq heq
        have hmq := mem_listed heq
        simp [go_sem, *] at hmq
      clear hKq Kq
      try clear wq
      try w_num)
   | (refine gw_unwanted rfl rfl ?_; walk_nrm)
   | (refine gw_defer rfl rfl (by k_ne) rfl ?_; walk_nrm))
 refine GoesW.stop (fun w₁ r₁ i₁ => ?_)
 replace hT := hT.rely r₁
 clear r₁
 refine ⟨rfl, _, stepG_mark0 .disable (by simp) rfl rfl (by k_ne) rfl H.f_disable (x_disable_n L) (x_disable_b L) (x_disable_x L) (x_disable_f L), ?_⟩
 walk_nrm
 refine gw_region_end ?_
 refine gw_block ?_
 refine gw_loop ?_
 exact GoesW.stop (fun w₂ r₂ i₂ => hA _ _ _ ⟨_, _, _, _, _, _, _, _, rfl, by simp, by simp, hN, hT.rely r₂⟩)
set_option maxRecDepth 100000 in
set_option maxHeartbeats 8000000 in
theorem waitRoundW (H : WgLib P L) (hty : F.ty = L.tWg) (hA : ∀ g w M, AnchW P L F S g w M → F.Anch S g w M) (g : Goroutine) (w : World) (h : AnchW P L F S g w M) : F.Go true S (F.W1 S) g w M := by
 lib_facts
 obtain ⟨T, b₀, a₀, ops₀, i₀, rest₀, k₀, cs, rfl, hT84, t0, hN, hT⟩ := h
 obtain ⟨v0, v1, v2, v3, v4, v5, v6, v7, v8, v9, v10, v11, v12, v13, v14, v15, v16, v17, v18, v19, v20, v21, v22, v23, v24, v25, v26, v27, v28, v29, v30, v31, v32, v33, v34, v35, v36, v37, v38, v39, v40, v41, v42, v43, v44, v45, v46, v47, v48, v49, v50, v51, v52, v53, v54, v55, v56, v57, v58, v59, v60, v61, v62, v63, v64, v65, v66, v67, v68, v69, v70, v71, v72, v73, v74, v75, v76, v77, v78, v79, v80, v81, v82, v83, rfl⟩ := array84 T hT84
 simp only [List.getElem?_toArray, List.getElem?_cons_zero, Option.some.injEq] at t0
 subst t0
 simp only [L7, body_wait, waitFn, Option.getD_some]
 repeat (first
   | refine gw_seq ?_
   | refine gw_skip ?_
   | refine gw_block ?_
   | refine gw_loop ?_
   | refine gw_inLoop ?_
   | refine gw_inBlock ?_
   | refine gw_region_end ?_
   | refine gw_label ?_
   | refine gw_ret ?_
   | (refine gw_region ?_; simp only [List.size_toArray, List.length_cons, List.length_nil, Nat.reduceAdd, Nat.zero_add, List.range, List.range.loop])
   | refine gw_exit rfl ?_
   | refine gw_yes rfl ?_
   | refine gw_no rfl ?_
   | (refine gw_op rfl rfl (by k_ne) (fun wq _ _ Kq hKq => ?_)
      go_simp
      refine hKq _ ?_ ?_
      · intro eq heq
        have hmq := mem_listed heq
        simp [go_sem, *] at hmq
      clear hKq Kq
      try clear wq
      try w_num)
   | (refine gw_unwanted rfl rfl ?_; walk_nrm)
   | (refine gw_defer rfl rfl (by k_ne) rfl ?_; walk_nrm))
 refine gw_call rfl rfl (by k_ne) rfl H.f_uLoad (nm_uLoad L) rfl ?_
 walk_nrmf uLoadFn
 repeat (first
   | refine gw_seq ?_
   | refine gw_skip ?_
   | refine gw_block ?_
   | refine gw_loop ?_
   | refine gw_inLoop ?_
   | refine gw_inBlock ?_
   | refine gw_region_end ?_
   | refine gw_label ?_
   | refine gw_ret ?_
   | (refine gw_region ?_; simp only [List.size_toArray, List.length_cons, List.length_nil, Nat.reduceAdd, Nat.zero_add, List.range, List.range.loop])
   | refine gw_exit rfl ?_
   | refine gw_yes rfl ?_
   | refine gw_no rfl ?_
   | (refine gw_op rfl rfl (by k_ne) (fun wq _ _ Kq hKq => ?_)
      go_simp
      refine hKq _ ?_ ?_
      · intro eq heq
        have hmq := mem_listed heq
        simp [go_sem, *] at hmq
      clear hKq Kq
      try clear wq
      try w_num)
   | (refine gw_unwanted rfl rfl ?_; walk_nrm)
   | (refine gw_defer rfl rfl (by k_ne) rfl ?_; walk_nrm))
 refine GoesW.stop (fun w₁ r₁ i₁ => ?_)
 replace hT := hT.rely r₁
 clear r₁
 refine ⟨rfl, fun v hv hw => ?_⟩
 rcases Nat.eq_zero_or_pos v with rfl | hvp
 · replace hw : WgAt F.ty F.Wg w₁ 0 0 := by simpa using hw
   refine ⟨_, stepG_load_atomic (v := 0) rfl rfl (by k_ne) rfl H.f_loadU64 (x_loadU64_n L) (x_loadU64_b L) (x_loadU64_x L) .u64 (x_loadU64_f L) rfl hw.cellSt, fun _ => ?_, fun h => absurd rfl h⟩
   clear hw
   walk_nrm
   repeat (first
     | refine gw_seq ?_
     | refine gw_skip ?_
     | refine gw_block ?_
     | refine gw_loop ?_
     | refine gw_inLoop ?_
     | refine gw_inBlock ?_
     | refine gw_region_end ?_
     | refine gw_label ?_
     | refine gw_ret ?_
     | (refine gw_region ?_; simp only [List.size_toArray, List.length_cons, List.length_nil, Nat.reduceAdd, Nat.zero_add, List.range, List.range.loop])
     | refine gw_exit rfl ?_
     | refine gw_yes rfl ?_
     | refine gw_no rfl ?_
     | (refine gw_op rfl rfl (by k_ne) (fun wq _ _ Kq hKq => ?_)
        go_simp
        refine hKq _ ?_ ?_
        · intro eq heq
          have hmq := mem_listed heq
          simp [go_sem, *] at hmq
        clear hKq Kq
        try clear wq
        try w_num)
     | (refine gw_unwanted rfl rfl ?_; walk_nrm)
     | (refine gw_defer rfl rfl (by k_ne) rfl ?_; walk_nrm))
   refine gw_leave1 rfl rfl H.f_uLoad rfl ?_
   walk_nrm
   repeat (first
     | refine gw_seq ?_
     | refine gw_skip ?_
     | refine gw_block ?_
     | refine gw_loop ?_
     | refine gw_inLoop ?_
     | refine gw_inBlock ?_
     | refine gw_region_end ?_
     | refine gw_label ?_
     | refine gw_ret ?_
     | (refine gw_region ?_; simp only [List.size_toArray, List.length_cons, List.length_nil, Nat.reduceAdd, Nat.zero_add, List.range, List.range.loop])
     | refine gw_exit rfl ?_
     | refine gw_yes rfl ?_
     | refine gw_no rfl ?_
     | (refine gw_op rfl rfl (by k_ne) (fun wq _ _ Kq hKq => ?_)
        go_simp
        refine hKq _ ?_ ?_
        · intro eq heq
          have hmq := mem_listed heq
          simp [go_sem, *] at hmq
        clear hKq Kq
        try clear wq
        try w_num)
     | (refine gw_unwanted rfl rfl ?_; walk_nrm)
     | (refine gw_defer rfl rfl (by k_ne) rfl ?_; walk_nrm))
   refine GoesW.stop (fun w₅ r₅ i₅ => ?_)
   replace hT := hT.rely r₅
   clear r₅
   refine ⟨rfl, _, stepG_mark0 .enable (by simp) rfl rfl (by k_ne) rfl H.f_enable (x_enable_n L) (x_enable_b L) (x_enable_x L) (x_enable_f L), ?_⟩
   walk_nrm
   repeat (first
     | refine gw_seq ?_
     | refine gw_skip ?_
     | refine gw_block ?_
     | refine gw_loop ?_
     | refine gw_inLoop ?_
     | refine gw_inBlock ?_
     | refine gw_region_end ?_
     | refine gw_label ?_
     | refine gw_ret ?_
     | (refine gw_region ?_; simp only [List.size_toArray, List.length_cons, List.length_nil, Nat.reduceAdd, Nat.zero_add, List.range, List.range.loop])
     | refine gw_exit rfl ?_
     | refine gw_yes rfl ?_
     | refine gw_no rfl ?_)
   (refine gw_op rfl rfl (by k_ne) (fun wq _ _ Kq hKq => ?_)
    go_simp
    refine hKq _ ?_ ?_
    · intro eq heq
      have hmq := mem_listed heq
      simp [go_sem, *] at hmq
    clear hKq Kq
    try clear wq
    try w_num)
   refine gw_op rfl rfl (by k_ne) (fun wq _ iq Kq hKq => ?_)
   have hcv := run_convert_to_unsafe (P := P) H.underlying_tWgP H.underlying_tUP H.room_tWg (WgLive.cell0 iq.1).choose_spec
   have hce := fun es => events_convert_to_unsafe (P := P) H.underlying_tWgP H.underlying_tUP H.room_tWg (WgLive.cell0 iq.1).choose_spec es
   go_simp
   refine hKq _ ?_ ?_
   · intro eq heq
     have hmq := mem_listed heq
     simp [go_sem, hce] at hmq
   clear hKq Kq hcv hce iq
   try clear wq
   refine GoesW.stop (fun w₆ r₆ i₆ => ?_)
   replace hT := hT.rely r₆
   clear r₆
   refine ⟨rfl, _, stepG_markAt .acquire (by simp) rfl rfl (by k_ne) rfl H.f_acquire (x_acquire_n L) (x_acquire_b L) (x_acquire_x L) (x_acquire_f L) (by simp [Act.eval, stA]), ?_⟩
   walk_nrm
   repeat (first
     | refine gw_seq ?_
     | refine gw_skip ?_
     | refine gw_block ?_
     | refine gw_loop ?_
     | refine gw_inLoop ?_
     | refine gw_inBlock ?_
     | refine gw_region_end ?_
     | refine gw_label ?_
     | refine gw_ret ?_
     | (refine gw_region ?_; simp only [List.size_toArray, List.length_cons, List.length_nil, Nat.reduceAdd, Nat.zero_add, List.range, List.range.loop])
     | refine gw_exit rfl ?_
     | refine gw_yes rfl ?_
     | refine gw_no rfl ?_
     | (refine gw_op rfl rfl (by k_ne) (fun wq _ _ Kq hKq => ?_)
        go_simp
        refine hKq _ ?_ ?_
        · intro eq heq
          have hmq := mem_listed heq
          simp [go_sem, *] at hmq
        clear hKq Kq
        try clear wq
        try w_num)
     | (refine gw_unwanted rfl rfl ?_; walk_nrm)
     | (refine gw_defer rfl rfl (by k_ne) rfl ?_; walk_nrm))
   refine gw_leave0 rfl rfl H.f_wait rfl ?_
   walk_nrm
   exact hT
 · obtain ⟨T, hT'⟩ : ∃ T : Int, (v : Int) * KK = T := ⟨_, rfl⟩
   have a1 : T / 4294967296 = (v : Int) := by rw [← hT']; simp only [KK]; omega
   have b1 : bits .and .u64 T 2147483648 = 0 := by rw [← hT']; have := st_flag v 0 (by omega) (by omega); simpa [KK] using this
   have b2 : bits .and .u64 T 2147483647 = 0 := by rw [← hT']; have := st_waiters v 0 (by omega) (by omega); simpa [KK] using this
   have c1 : IntKind.i32.wrap (v : Int) = (v : Int) := by rw [IntKind.wrap_i32]; omega
   have z1 : IntKind.u64.wrap (T + 1) = T + 1 := by rw [IntKind.wrap_u64, ← hT']; simp only [KK]; omega
   obtain ⟨V, hV⟩ : ∃ V : Int, V = (v : Int) := ⟨_, rfl⟩
   rw [← hV] at a1 c1
   have hV0 : 0 < V := by omega
   have q3 : decide (V < 0) = false := decide_eq_false (by omega)
   have q4 : decide (0 < V) = true := decide_eq_true (by omega)
   have q5 : (V == 0) = false := by simp; omega
   have q6 : decide (V = 0) = false := decide_eq_false (by omega)
   rw [hT'] at hw
   refine ⟨_, stepG_load_atomic (v := T) rfl rfl (by k_ne) rfl H.f_loadU64 (x_loadU64_n L) (x_loadU64_b L) (x_loadU64_x L) .u64 (x_loadU64_f L) rfl hw.cellSt, fun h0 => absurd h0 (by omega), fun _ => ?_⟩
   clear hw
   replace hT' := Veil.mk hT'
   replace hV := Veil.mk hV
   walk_nrm
   repeat (first
     | refine gw_seq ?_
     | refine gw_skip ?_
     | refine gw_block ?_
     | refine gw_loop ?_
     | refine gw_inLoop ?_
     | refine gw_inBlock ?_
     | refine gw_region_end ?_
     | refine gw_label ?_
     | refine gw_ret ?_
     | (refine gw_region ?_; simp only [List.size_toArray, List.length_cons, List.length_nil, Nat.reduceAdd, Nat.zero_add, List.range, List.range.loop])
     | refine gw_exit rfl ?_
     | refine gw_yes rfl ?_
     | refine gw_no rfl ?_
     | (refine gw_op rfl rfl (by k_ne) (fun wq _ _ Kq hKq => ?_)
        go_simp
        refine hKq _ ?_ ?_
        · intro eq heq
          have hmq := mem_listed heq
          simp [go_sem, *] at hmq
        clear hKq Kq
        try clear wq
        try w_num)
     | (refine gw_unwanted rfl rfl ?_; walk_nrm)
     | (refine gw_defer rfl rfl (by k_ne) rfl ?_; walk_nrm))
   refine gw_leave1 rfl rfl H.f_uLoad rfl ?_
   walk_nrm
   repeat (first
     | refine gw_seq ?_
     | refine gw_skip ?_
     | refine gw_block ?_
     | refine gw_loop ?_
     | refine gw_inLoop ?_
     | refine gw_inBlock ?_
     | refine gw_region_end ?_
     | refine gw_label ?_
     | refine gw_ret ?_
     | (refine gw_region ?_; simp only [List.size_toArray, List.length_cons, List.length_nil, Nat.reduceAdd, Nat.zero_add, List.range, List.range.loop])
     | refine gw_exit rfl ?_
     | refine gw_yes rfl ?_
     | refine gw_no rfl ?_
     | (refine gw_op rfl rfl (by k_ne) (fun wq _ _ Kq hKq => ?_)
        go_simp
        refine hKq _ ?_ ?_
        · intro eq heq
          have hmq := mem_listed heq
          simp [go_sem, *] at hmq
        clear hKq Kq
        try clear wq
        try w_num)
     | (refine gw_unwanted rfl rfl ?_; walk_nrm)
     | (refine gw_defer rfl rfl (by k_ne) rfl ?_; walk_nrm))
   refine gw_call rfl rfl (by k_ne) rfl H.f_uCas (nm_uCas L) rfl ?_
   walk_nrmf uCasFn
   repeat (first
     | refine gw_seq ?_
     | refine gw_skip ?_
     | refine gw_block ?_
     | refine gw_loop ?_
     | refine gw_inLoop ?_
     | refine gw_inBlock ?_
     | refine gw_region_end ?_
     | refine gw_label ?_
     | refine gw_ret ?_
     | (refine gw_region ?_; simp only [List.size_toArray, List.length_cons, List.length_nil, Nat.reduceAdd, Nat.zero_add, List.range, List.range.loop])
     | refine gw_exit rfl ?_
     | refine gw_yes rfl ?_
     | refine gw_no rfl ?_
     | (refine gw_op rfl rfl (by k_ne) (fun wq _ _ Kq hKq => ?_)
        go_simp
        refine hKq _ ?_ ?_
        · intro eq heq
          have hmq := mem_listed heq
          simp [go_sem, *] at hmq
        clear hKq Kq
        try clear wq
        try w_num)
     | (refine gw_unwanted rfl rfl ?_; walk_nrm)
     | (refine gw_defer rfl rfl (by k_ne) rfl ?_; walk_nrm))
   refine GoesW.stop (fun w₂ r₂ i₂ => ?_)
   replace hT := hT.rely r₂
   clear r₂
   refine ⟨rfl, fun v' hv' hw => ⟨fun e => ?_, fun e => ?_⟩⟩
   · subst e
     rw [hT'.out] at hw ⊢
     replace hT := hT.rely (rely_setCell (a := stA F.Wg) (v := .int .u64 (T + 1)) hN)
     refine ⟨_, (stepG_cas_hit (v := T) (n := T + 1) rfl rfl (by k_ne) rfl H.f_casU64 (x_casU64_n L) (x_casU64_b L) (x_casU64_x L) .u64 (x_casU64_f L) rfl rfl rfl hw.cellSt (hw.thaw 0)).trans (by rfl), ?_⟩
     clear hw
     walk_nrm
     repeat (first
       | refine gw_seq ?_
       | refine gw_skip ?_
       | refine gw_block ?_
       | refine gw_loop ?_
       | refine gw_inLoop ?_
       | refine gw_inBlock ?_
       | refine gw_region_end ?_
       | refine gw_label ?_
       | refine gw_ret ?_
       | (refine gw_region ?_; simp only [List.size_toArray, List.length_cons, List.length_nil, Nat.reduceAdd, Nat.zero_add, List.range, List.range.loop])
       | refine gw_exit rfl ?_
       | refine gw_yes rfl ?_
       | refine gw_no rfl ?_
       | (refine gw_op rfl rfl (by k_ne) (fun wq _ _ Kq hKq => ?_)
          go_simp
          refine hKq _ ?_ ?_
          · intro eq heq
            have hmq := mem_listed heq
            simp [go_sem, *] at hmq
          clear hKq Kq
          try clear wq
          try w_num)
       | (refine gw_unwanted rfl rfl ?_; walk_nrm)
       | (refine gw_defer rfl rfl (by k_ne) rfl ?_; walk_nrm))
     refine gw_leave1 rfl rfl H.f_uCas rfl ?_
     walk_nrm
     repeat (first
       | refine gw_seq ?_
       | refine gw_skip ?_
       | refine gw_block ?_
       | refine gw_loop ?_
       | refine gw_inLoop ?_
       | refine gw_inBlock ?_
       | refine gw_region_end ?_
       | refine gw_label ?_
       | refine gw_ret ?_
       | (refine gw_region ?_; simp only [List.size_toArray, List.length_cons, List.length_nil, Nat.reduceAdd, Nat.zero_add, List.range, List.range.loop])
       | refine gw_exit rfl ?_
       | refine gw_yes rfl ?_
       | refine gw_no rfl ?_
       | (refine gw_op rfl rfl (by k_ne) (fun wq _ _ Kq hKq => ?_)
          go_simp
          refine hKq _ ?_ ?_
          · intro eq heq
            have hmq := mem_listed heq
            simp [go_sem, *] at hmq
          clear hKq Kq
          try clear wq
          try w_num)
       | (refine gw_unwanted rfl rfl ?_; walk_nrm)
       | (refine gw_defer rfl rfl (by k_ne) rfl ?_; walk_nrm))
     refine gw_op rfl rfl (by k_ne) (fun wq _ iq Kq hKq => ?_)
     have hcv := run_convert_to_unsafe (P := P) H.underlying_tPU32 H.underlying_tUP H.room_tU32 (WgLive.cell1 iq.1).choose_spec
     have hce := fun es => events_convert_to_unsafe (P := P) H.underlying_tPU32 H.underlying_tUP H.room_tU32 (WgLive.cell1 iq.1).choose_spec es
     go_simp
     refine hKq _ ?_ ?_
     · intro eq heq
       have hmq := mem_listed heq
       simp [go_sem, hce] at hmq
     clear hKq Kq hcv hce iq
     try clear wq
     refine GoesW.stop (fun w₃ r₃ i₃ => ?_)
     replace hT := hT.rely r₃
     clear r₃
     refine ⟨rfl, _, stepG_markAt .write (by simp) rfl rfl (by k_ne) rfl H.f_raceWrite (x_raceWrite_n L) (x_raceWrite_b L) (x_raceWrite_x L) (x_raceWrite_f L) (ad := ⟨F.Wg, 1, none⟩) (by simp [Act.eval]), ?_⟩
     walk_nrm
     repeat (first
       | refine gw_seq ?_
       | refine gw_skip ?_
       | refine gw_block ?_
       | refine gw_loop ?_
       | refine gw_inLoop ?_
       | refine gw_inBlock ?_
       | refine gw_region_end ?_
       | refine gw_label ?_
       | refine gw_ret ?_
       | (refine gw_region ?_; simp only [List.size_toArray, List.length_cons, List.length_nil, Nat.reduceAdd, Nat.zero_add, List.range, List.range.loop])
       | refine gw_exit rfl ?_
       | refine gw_yes rfl ?_
       | refine gw_no rfl ?_
       | (refine gw_op rfl rfl (by k_ne) (fun wq _ _ Kq hKq => ?_)
          go_simp
          refine hKq _ ?_ ?_
          · intro eq heq
            have hmq := mem_listed heq
            simp [go_sem, *] at hmq
          clear hKq Kq
          try clear wq
          try w_num)
       | (refine gw_unwanted rfl rfl ?_; walk_nrm)
       | (refine gw_defer rfl rfl (by k_ne) rfl ?_; walk_nrm))
     refine GoesW.stop (fun w₄ r₄ i₄ => ?_)
     replace hT := hT.rely r₄
     clear r₄
     refine ⟨rfl, rfl, fun ⟨st, hw⟩ => stepG_semacquire_wait rfl rfl rfl H.f_semacquire (x_semacquire_n L) (x_semacquire_b L) (x_semacquire_x L) (x_semacquire_f L) (by simp [Act.eval, smA]) hw.cellSm, fun hf => ?_⟩
     replace hT := hT.rely (rely_setCell (a := smA F.Wg) (v := .int .u32 0) hN)
     refine ⟨_, (stepG_semacquire (n := 1) rfl rfl (by k_ne) rfl H.f_semacquire (x_semacquire_n L) (x_semacquire_b L) (x_semacquire_x L) (x_semacquire_f L) (by simp [Act.eval, smA]) hf.cellSm (by k_ne) (hf.thaw 1)).trans (by rfl), ?_⟩
     clear hf
     walk_nrm
     repeat (first
       | refine gw_seq ?_
       | refine gw_skip ?_
       | refine gw_block ?_
       | refine gw_loop ?_
       | refine gw_inLoop ?_
       | refine gw_inBlock ?_
       | refine gw_region_end ?_
       | refine gw_label ?_
       | refine gw_ret ?_
       | (refine gw_region ?_; simp only [List.size_toArray, List.length_cons, List.length_nil, Nat.reduceAdd, Nat.zero_add, List.range, List.range.loop])
       | refine gw_exit rfl ?_
       | refine gw_yes rfl ?_
       | refine gw_no rfl ?_
       | (refine gw_op rfl rfl (by k_ne) (fun wq _ _ Kq hKq => ?_)
          go_simp
          refine hKq _ ?_ ?_
          · intro eq heq
            have hmq := mem_listed heq
            simp [go_sem, *] at hmq
          clear hKq Kq
          try clear wq
          try w_num)
       | (refine gw_unwanted rfl rfl ?_; walk_nrm)
       | (refine gw_defer rfl rfl (by k_ne) rfl ?_; walk_nrm))
     refine gw_call rfl rfl (by k_ne) rfl H.f_uLoad (nm_uLoad L) rfl ?_
     walk_nrmf uLoadFn
     repeat (first
       | refine gw_seq ?_
       | refine gw_skip ?_
       | refine gw_block ?_
       | refine gw_loop ?_
       | refine gw_inLoop ?_
       | refine gw_inBlock ?_
       | refine gw_region_end ?_
       | refine gw_label ?_
       | refine gw_ret ?_
       | (refine gw_region ?_; simp only [List.size_toArray, List.length_cons, List.length_nil, Nat.reduceAdd, Nat.zero_add, List.range, List.range.loop])
       | refine gw_exit rfl ?_
       | refine gw_yes rfl ?_
       | refine gw_no rfl ?_
       | (refine gw_op rfl rfl (by k_ne) (fun wq _ _ Kq hKq => ?_)
          go_simp
          refine hKq _ ?_ ?_
          · intro eq heq
            have hmq := mem_listed heq
            simp [go_sem, *] at hmq
          clear hKq Kq
          try clear wq
          try w_num)
       | (refine gw_unwanted rfl rfl ?_; walk_nrm)
       | (refine gw_defer rfl rfl (by k_ne) rfl ?_; walk_nrm))
     refine GoesW.stop (fun w₅ r₅ i₅ => ?_)
     replace hT := hT.rely r₅
     clear r₅
     refine ⟨rfl, fun hw => ⟨_, stepG_load_atomic (v := 0) rfl rfl (by k_ne) rfl H.f_loadU64 (x_loadU64_n L) (x_loadU64_b L) (x_loadU64_x L) .u64 (x_loadU64_f L) rfl hw.cellSt, ?_⟩⟩
     clear hw
     walk_nrm
     repeat (first
       | refine gw_seq ?_
       | refine gw_skip ?_
       | refine gw_block ?_
       | refine gw_loop ?_
       | refine gw_inLoop ?_
       | refine gw_inBlock ?_
       | refine gw_region_end ?_
       | refine gw_label ?_
       | refine gw_ret ?_
       | (refine gw_region ?_; simp only [List.size_toArray, List.length_cons, List.length_nil, Nat.reduceAdd, Nat.zero_add, List.range, List.range.loop])
       | refine gw_exit rfl ?_
       | refine gw_yes rfl ?_
       | refine gw_no rfl ?_
       | (refine gw_op rfl rfl (by k_ne) (fun wq _ _ Kq hKq => ?_)
          go_simp
          refine hKq _ ?_ ?_
          · intro eq heq
            have hmq := mem_listed heq
            simp [go_sem, *] at hmq
          clear hKq Kq
          try clear wq
          try w_num)
       | (refine gw_unwanted rfl rfl ?_; walk_nrm)
       | (refine gw_defer rfl rfl (by k_ne) rfl ?_; walk_nrm))
     refine gw_leave1 rfl rfl H.f_uLoad rfl ?_
     walk_nrm
     repeat (first
       | refine gw_seq ?_
       | refine gw_skip ?_
       | refine gw_block ?_
       | refine gw_loop ?_
       | refine gw_inLoop ?_
       | refine gw_inBlock ?_
       | refine gw_region_end ?_
       | refine gw_label ?_
       | refine gw_ret ?_
       | (refine gw_region ?_; simp only [List.size_toArray, List.length_cons, List.length_nil, Nat.reduceAdd, Nat.zero_add, List.range, List.range.loop])
       | refine gw_exit rfl ?_
       | refine gw_yes rfl ?_
       | refine gw_no rfl ?_
       | (refine gw_op rfl rfl (by k_ne) (fun wq _ _ Kq hKq => ?_)
          go_simp
          refine hKq _ ?_ ?_
          · intro eq heq
            have hmq := mem_listed heq
            simp [go_sem, *] at hmq
          clear hKq Kq
          try clear wq
          try w_num)
       | (refine gw_unwanted rfl rfl ?_; walk_nrm)
       | (refine gw_defer rfl rfl (by k_ne) rfl ?_; walk_nrm))
     refine GoesW.stop (fun w₆ r₆ i₆ => ?_)
     replace hT := hT.rely r₆
     clear r₆
     refine ⟨rfl, _, stepG_mark0 .enable (by simp) rfl rfl (by k_ne) rfl H.f_enable (x_enable_n L) (x_enable_b L) (x_enable_x L) (x_enable_f L), ?_⟩
     walk_nrm
     repeat (first
       | refine gw_seq ?_
       | refine gw_skip ?_
       | refine gw_block ?_
       | refine gw_loop ?_
       | refine gw_inLoop ?_
       | refine gw_inBlock ?_
       | refine gw_region_end ?_
       | refine gw_label ?_
       | refine gw_ret ?_
       | (refine gw_region ?_; simp only [List.size_toArray, List.length_cons, List.length_nil, Nat.reduceAdd, Nat.zero_add, List.range, List.range.loop])
       | refine gw_exit rfl ?_
       | refine gw_yes rfl ?_
       | refine gw_no rfl ?_)
     (refine gw_op rfl rfl (by k_ne) (fun wq _ _ Kq hKq => ?_)
      go_simp
      refine hKq _ ?_ ?_
      · intro eq heq
        have hmq := mem_listed heq
        simp [go_sem, *] at hmq
      clear hKq Kq
      try clear wq
      try w_num)
     refine gw_op rfl rfl (by k_ne) (fun wq _ iq Kq hKq => ?_)
     have hcv := run_convert_to_unsafe (P := P) H.underlying_tWgP H.underlying_tUP H.room_tWg (WgLive.cell0 iq.1).choose_spec
     have hce := fun es => events_convert_to_unsafe (P := P) H.underlying_tWgP H.underlying_tUP H.room_tWg (WgLive.cell0 iq.1).choose_spec es
     go_simp
     refine hKq _ ?_ ?_
     · intro eq heq
       have hmq := mem_listed heq
       simp [go_sem, hce] at hmq
     clear hKq Kq hcv hce iq
     try clear wq
     refine GoesW.stop (fun w₇ r₇ i₇ => ?_)
     replace hT := hT.rely r₇
     clear r₇
     refine ⟨rfl, _, stepG_markAt .acquire (by simp) rfl rfl (by k_ne) rfl H.f_acquire (x_acquire_n L) (x_acquire_b L) (x_acquire_x L) (x_acquire_f L) (by simp [Act.eval, stA]), ?_⟩
     walk_nrm
     repeat (first
       | refine gw_seq ?_
       | refine gw_skip ?_
       | refine gw_block ?_
       | refine gw_loop ?_
       | refine gw_inLoop ?_
       | refine gw_inBlock ?_
       | refine gw_region_end ?_
       | refine gw_label ?_
       | refine gw_ret ?_
       | (refine gw_region ?_; simp only [List.size_toArray, List.length_cons, List.length_nil, Nat.reduceAdd, Nat.zero_add, List.range, List.range.loop])
       | refine gw_exit rfl ?_
       | refine gw_yes rfl ?_
       | refine gw_no rfl ?_
       | (refine gw_op rfl rfl (by k_ne) (fun wq _ _ Kq hKq => ?_)
          go_simp
          refine hKq _ ?_ ?_
          · intro eq heq
            have hmq := mem_listed heq
            simp [go_sem, *] at hmq
          clear hKq Kq
          try clear wq
          try w_num)
       | (refine gw_unwanted rfl rfl ?_; walk_nrm)
       | (refine gw_defer rfl rfl (by k_ne) rfl ?_; walk_nrm))
     refine gw_leave0 rfl rfl H.f_wait rfl ?_
     walk_nrm
     exact hT
   · have hw2 : (v' : Int) * KK ≠ T := by rw [← hT'.out]; simp only [KK]; omega
     refine ⟨_, stepG_cas_miss (v := (v' : Int) * KK) (old := T) (n := T + 1) rfl rfl (by k_ne) rfl H.f_casU64 (x_casU64_n L) (x_casU64_b L) (x_casU64_x L) .u64 (x_casU64_f L) rfl rfl rfl hw.cellSt (hw.thaw 0) hw2, ?_⟩
     clear hw hw2
     walk_nrm
     (refine gw_op rfl rfl (by k_ne) (fun wq _ _ Kq hKq => ?_)
      go_simp
      refine hKq _ ?_ ?_
      · intro eq heq
        have hmq := mem_listed heq
        simp [go_sem, *] at hmq
      clear hKq Kq
      try clear wq
      try w_num)
     refine gw_region_end ?_
     refine gw_ret ?_
     refine gw_leave1 rfl rfl H.f_uCas rfl ?_
     walk_nrm
     refine gw_region_end ?_
     refine gw_no rfl ?_
     refine gw_skip ?_
     refine gw_inBlock ?_
     refine gw_inLoop ?_
     exact GoesW.stop (fun w₃ r₃ i₃ => hA _ _ _ ⟨_, _, _, _, _, _, _, _, rfl, by simp, by simp, hN, hT.rely r₃⟩)
end
end Go.Proofs.YtajnfkmkombajabDoor
namespace Go.Proofs.YtajnfkmkombajabDoor
open Go Go.Conc Go.ConcN Go.RowKit Go.Conc.Lib Go.ConcR.Gen Go.ConcN.Gen
open Go.ConcR (KK wgBlock WgAt stA smA)
theorem rely_setChan {S M : Nat → Prop} {W : World} {c cap s r : Nat} {buf : Array Value} {cl tm : Bool} (h1 : ¬ S c) (h2 : ¬ M c) : RelyS S M W (W.setChan c cap buf cl s r tm) := by
 refine ⟨rfl, rfl, rfl, by unfold World.setChan; simp, fun B _ hs => ?_⟩
 have : B ≠ c := fun e => hs.elim (fun q => h1 (e ▸ q)) fun q => h2 (e ▸ q)
 unfold World.setChan
 simp only
 rw [Array.getElem?_setIfInBounds_ne (Ne.symm this)]
def RetA (F : Farm Tryd.prog) (b8 b9 Bh : Nat) (fh : FuncId) (hc : Array Value) (Res : Nat → Value → Value → World → (Nat → Prop) → Prop) (S0 : Nat → Prop) (K J : World → Prop) (n : Nat) (b₀ : Frame) (a₀ : Act) (ops₀ : Array Oper) (i₀ : Nat) (rest₀ : List Nat) (k₀ : List Item) (cs : List Frame) (S : Nat → Prop) (g : Goroutine) (W : World) (M : Nat → Prop) : Prop :=
 ∃ Bo Be, g = G (b₀.at (a₀.put ((ops₀[i₀]?).bind (·.dst)) (.tuple #[.slice (some ⟨Bo, 0, none⟩) n n, .slice (some ⟨Be, 0, none⟩) n n])) (.inRegion ops₀ rest₀ :: k₀)) cs ∧ Lf F b8 b9 Bh fh hc Res S0 K J Bo Be n (fun k => k < n) S M W
section
variable {F : Farm Tryd.prog} {b8 b9 Bh : Nat} {fh : FuncId} {hc : Array Value} {Res : Nat → Value → Value → World → (Nat → Prop) → Prop} {S0 : Nat → Prop} {K J : World → Prop} {Bo Be n : Nat} {got : Nat → Prop} {S M : Nat → Prop} {W W1 : World} {g : Goroutine} {nx rd : Nat}
variable {b₀ : Frame} {a₀ : Act} {ops₀ : Array Oper} {i₀ : Nat} {rest₀ : List Nat} {k₀ : List Item} {cs : List Frame}
set_option maxRecDepth 100000 in
set_option maxHeartbeats 4000000 in
theorem closeA (L : CfLaw F fh hc Res S0 K J) (hA : ∀ S g w M, AnchW Tryd.prog wgL F S g w M → F.Anch S g w M) (hR : ∀ S g W M, RetA F b8 b9 Bh fh hc Res S0 K J n b₀ a₀ ops₀ i₀ rest₀ k₀ cs S g W M → F.Ret S g W M)
   (T : Array Value) (hT : T.size = 62) (hs : T[0]? = some (.int .i64 n) ∧ T[6]? = some (.slice (some ⟨Bo, 0, none⟩) n n) ∧ T[7]? = some (.slice (some ⟨Be, 0, none⟩) n n) ∧ T[8]? = some (.pointer (some ⟨b8, 0, none⟩)) ∧ T[9]? = some (.pointer (some ⟨b9, 0, none⟩)) ∧ T[10]? = some (.pointer (some ⟨F.Wg, 0, none⟩))) (h : Lf F b8 b9 Bh fh hc Res S0 K J Bo Be n (fun k => k < n) S M W) :
   F.Go true S (F.Cl S) (G ((base 138).at ⟨T, []⟩ [.code endC]) (b₀.at a₀ (.inRegion ops₀ (i₀ :: rest₀) :: k₀) :: cs)) W M := by
 obtain ⟨v0, v1, v2, v3, v4, v5, v6, v7, v8, v9, v10, v11, v12, v13, v14, v15, v16, v17, v18, v19, v20, v21, v22, v23, v24, v25, v26, v27, v28, v29, v30, v31, v32, v33, v34, v35, v36, v37, v38, v39, v40, v41, v42, v43, v44, v45, v46, v47, v48, v49, v50, v51, v52, v53, v54, v55, v56, v57, v58, v59, v60, v61, rfl⟩ := arr62 T hT
 simp only [List.getElem?_toArray, List.getElem?_cons_zero, List.getElem?_cons_succ, Option.some.injEq] at hs
 obtain ⟨rfl, rfl, rfl, rfl, rfl, rfl⟩ := hs
 have H := wgLib
 simp only [endC, restC, bodyC, Tryd.f138, Option.getD_some]
 repeat (first
   | refine gw_seq ?_
   | refine gw_skip ?_
   | refine gw_block ?_
   | refine gw_loop ?_
   | refine gw_inLoop ?_
   | refine gw_inBlock ?_
   | refine gw_region_end ?_
   | refine gw_label ?_
   | refine gw_ret ?_
   | (refine gw_region ?_; simp only [List.size_toArray, List.length_cons, List.length_nil, Nat.reduceAdd, Nat.zero_add, List.range, List.range.loop])
   | refine gw_exit rfl ?_
   | refine gw_yes rfl ?_
   | refine gw_no rfl ?_
   | (refine gw_op rfl rfl (by k_ne) (fun wq rq iq Kq hKq => ?_)
      go_simp
      refine hKq _ ?_ ?_
      · intro eq heq
        have hmq := mem_listed heq
        simp [go_sem, *] at hmq
      clear hKq Kq rq iq wq
      try w_num)
   | (refine gw_unwanted rfl rfl ?_; walk_nrm)
   | (refine gw_defer rfl rfl (by k_ne) rfl ?_; walk_nrm))
 refine gw_op rfl rfl (by k_ne) (fun wq rq iq Kq hKq => ?_)
 have hl := cell_rely rq (pub_or h.cf.m8) h.cf.c8
 go_simp
 refine hKq _ ?_ ?_
 · intro eq heq
   have hmq := mem_listed heq
   simp [go_sem, *] at hmq
   subst hmq
   exact evOk_rd (pub_or h.cf.m8)
 clear hKq Kq hl rq iq wq
 refine GoesW.stop fun W1 r1 _ => ⟨rfl, rfl, fun s hch => ⟨_, stepG_close rfl rfl (by k_ne) rfl rfl hch (by kernel_rfl), ?_⟩⟩
 have h1 := h.rely L r1
 have r2 : RelyS S M W1 (W1.setChan F.Td 0 #[] true s s false) := rely_setChan h.cf.nT.1 h.cf.nT.2.1
 have h2 := h1.rely L r2
 walk_nrm
 repeat (first
   | refine gw_seq ?_
   | refine gw_skip ?_
   | refine gw_block ?_
   | refine gw_loop ?_
   | refine gw_inLoop ?_
   | refine gw_inBlock ?_
   | refine gw_region_end ?_
   | refine gw_label ?_
   | refine gw_ret ?_
   | (refine gw_region ?_; simp only [List.size_toArray, List.length_cons, List.length_nil, Nat.reduceAdd, Nat.zero_add, List.range, List.range.loop])
   | refine gw_exit rfl ?_
   | refine gw_yes rfl ?_
   | refine gw_no rfl ?_)
 refine gw_call rfl rfl (by k_ne) rfl H.f_wait (nm_wait wgL) rfl ?_
 walk_nrmf waitFn
 refine waitStartW (L := wgL) H (hA S) ⟨h.cf.nW.1, h.cf.nW.2.1⟩ _ ?_
 walk_nrm
 repeat (first
   | refine gw_seq ?_
   | refine gw_skip ?_
   | refine gw_block ?_
   | refine gw_loop ?_
   | refine gw_inLoop ?_
   | refine gw_inBlock ?_
   | refine gw_region_end ?_
   | refine gw_label ?_
   | refine gw_ret ?_
   | (refine gw_region ?_; simp only [List.size_toArray, List.length_cons, List.length_nil, Nat.reduceAdd, Nat.zero_add, List.range, List.range.loop])
   | refine gw_exit rfl ?_
   | refine gw_yes rfl ?_
   | refine gw_no rfl ?_
   | (refine gw_op rfl rfl (by k_ne) (fun wq rq iq Kq hKq => ?_)
      go_simp
      refine hKq _ ?_ ?_
      · intro eq heq
        have hmq := mem_listed heq
        simp [go_sem, *] at hmq
      clear hKq Kq rq iq wq
      try w_num)
   | (refine gw_unwanted rfl rfl ?_; walk_nrm)
   | (refine gw_defer rfl rfl (by k_ne) rfl ?_; walk_nrm))
 refine gw_leave2 rfl rfl Tryd.func138 rfl ?_
 exact GoesW.stop fun W3 r3 _ => hR _ _ _ _ ⟨Bo, Be, rfl, h2.rely L r3⟩
end
end Go.Proofs.YtajnfkmkombajabDoor
