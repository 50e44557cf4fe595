/-
  Contracts of package pool: Join, Take, Leave, Add, Slash.
  Stakes of package stake in memory: how they lie; the calls that only read.
-/
import Derived.Test.YtajnfkmkombajabGreatDoorQSR07
import Derived.Test.YtajnfkmkombajabGreatDoorQSR05
set_option linter.unusedVariables false
set_option linter.unusedSimpArgs false
set_option linter.unusedVariables false
namespace Go.Proofs.YtajnfkmkombajabGreatDoor
open Go.RowKit Go.Maps

theorem PoolAt.same {b mb n : Nat} {q : QS} {w : World} (h : PoolAt b mb n q w) (k : Nat) : PoolP b mb (n + 1) q w (w.drewN k) := ⟨(Keep.refl _ _).drewN k, (h.mono (Nat.le_succ n)).drewN k⟩
theorem PoolAt.sameN {b mb n : Nat} {q : QS} {w : World} (h : PoolAt b mb n q w) (k : Nat) : PoolP b mb n q w (w.drewN k) := ⟨(Keep.refl _ _).drewN k, h.drewN k⟩
theorem PoolAt.same0 {b mb n : Nat} {q : QS} {w : World} (h : PoolAt b mb n q w) : PoolP b mb (n + 1) q w w := ⟨Keep.refl _ _, h.mono (Nat.le_succ n)⟩
theorem PoolP.from {b mb n k : Nat} {q : QS} {w w' : World} (h : PoolP b mb n q (w.drewN k) w') : PoolP b mb n q w w' := ⟨⟨h.1.os, h.1.tape, h.1.output, h.1.size, h.1.block⟩, h.2⟩

theorem joinOp_of {q : QS} {o n s : Int} (hl : plookC o n = 0) (hg : ¬ (0 < q.all ∧ q.total = 0)) (hc : q.joinC n = 0) (hs : q.joinS n = s) :
    q.joinOp o n = if ¬ (q.total + n ≤ 1125899906842624 ∧ q.all + s ≤ 1125899906842624) then (2, q) else if s = 0 then (7, q) else (0, q.change o s n) := by
  unfold QS.joinOp; rw [if_neg (by rw [hl]; simp), if_neg hg, if_neg (by rw [hc]; simp), hs]

/-- the last tests of Join: the four ways -/
theorem join_ways {q : QS} (h : q.Ok) {o n s : Int} (hn : 1 ≤ n) (hs : 0 ≤ s) (e : q.joinOp o n = if ¬ (q.total + n ≤ 1125899906842624 ∧ q.all + s ≤ 1125899906842624) then (2, q) else if s = 0 then (7, q) else (0, q.change o s n)) :
    (amtB (q.total + n) = false ∧ q.joinOp o n = (2, q)) ∨ (amtB (q.total + n) = true ∧ amtB (q.all + s) = false ∧ q.joinOp o n = (2, q)) ∨
    (amtB (q.total + n) = true ∧ amtB (q.all + s) = true ∧ (s == 0) = true ∧ q.joinOp o n = (7, q)) ∨ (amtB (q.total + n) = true ∧ amtB (q.all + s) = true ∧ (s == 0) = false ∧ q.joinOp o n = (0, q.change o s n)) := by
  have ht := h.t0
  have ha := h.all0
  by_cases h1 : amtB (q.total + n) = true
  · by_cases h2 : amtB (q.all + s) = true
    · rw [if_neg (by rw [amtB_iff] at h1 h2; omega)] at e
      by_cases h3 : s = 0
      · rw [if_pos h3] at e; exact .inr (.inr (.inl ⟨h1, h2, by simp [h3], e⟩))
      · rw [if_neg h3] at e; exact .inr (.inr (.inr ⟨h1, h2, by simp [h3], e⟩))
    · rw [if_pos (by rw [amtB_iff] at h1 h2; omega)] at e
      exact .inr (.inl ⟨h1, by simpa using h2, e⟩)
  · rw [if_pos (by rw [amtB_iff] at h1; omega)] at e
    exact .inl ⟨by simpa using h1, e⟩

set_option maxRecDepth 8000 in
set_option maxHeartbeats 1000000 in
theorem pool_Join (A : Nat → Addr) (S : List Nat) (b mb m : Nat) (q : QS) (o n : Int) (w : World) (hE : Errs A S w) (h2 : 2 ∈ S) (h7 : 7 ∈ S) (h8 : 8 ∈ S) (h : PoolAt b mb m q w) (hm : m < maxLen) :
    Calls Tryz.prog 79 #[.pointer (some ⟨b, 0, none⟩), .int .i64 o, .int .i64 n] w fun e w' => e = .returned (ev A (q.joinOp o n).1) ∧ PoolP b mb (m + 1) (q.joinOp o n).2 w w' := by
  have g2 : w.cell? ⟨0, 0, none⟩ = some (.iface 235 (.pointer (some (A 2)))) := hE.cell 2 h2
  have g7 : w.cell? ⟨6, 0, none⟩ = some (.iface 235 (.pointer (some (A 7)))) := hE.cell 7 h7
  have g8 : w.cell? ⟨7, 0, none⟩ = some (.iface 235 (.pointer (some (A 8)))) := hE.cell 8 h8
  have c0 := h.c0
  have c1 := h.c1
  have HE := Lib.hid hE; clear hE
  have HP := Lib.hid h
  have t0 := h.ok.t0
  have t1 := h.ok.t1
  have a0 := h.ok.all0
  have a1 := h.ok.a1
  by_cases hl : plookC o n = 0
  · obtain ⟨ho, hn1, hn2⟩ := plookC_zero.1 hl
    have el : ev A (plookC o n) = .nilIface := by rw [hl]; rfl
    have HOK := Lib.hid (QS.joinOp_ok h.ok o n)
    by_cases h0 : 0 < q.all
    · by_cases hT : q.total = 0
      · have E1 := Lib.hid (show q.joinOp o n = (8, q) by unfold QS.joinOp; rw [if_neg (by rw [hl]; simp), if_pos ⟨h0, hT⟩])
        rw [hT] at c0
        clear h hT t0 t1 hl
        generalize q.all = U at *
        go_enter Tryz.func79, Tryz.ntmps79
        go_wp2_with (go_at_call 98; refine (pool_look A S _ _ _ HE.out h2).mono ?_; rintro e w' ⟨rfl, rfl⟩; rw [el])
        go_ret
        exact ⟨by rw [E1.out]; rfl, by rw [E1.out]; exact HP.out.same0⟩
      · have hTz : (q.total == 0) = false := by simp [hT]
        by_cases hO : overOk n q.all q.total
        · obtain ⟨y1, y2, _⟩ := over_yes hO
          have hjc : q.joinC n = 0 := by unfold QS.joinC; rw [if_pos h0]; exact y1
          have hjs : q.joinS n = overN n q.all q.total := by unfold QS.joinS; rw [if_pos h0]
          have eo : ev A (overC n q.all q.total) = .nilIface := by rw [y1]; rfl
          have s0 : 0 ≤ overN n q.all q.total := by rw [y2]; exact Int.ediv_nonneg (Int.mul_nonneg (by omega) a0) t0
          have s1 : overN n q.all q.total ≤ 1125899906842624 := by rw [y2]; exact hO.2.2.2
          have hw := join_ways h.ok hn1 s0 (joinOp_of hl (by omega) hjc hjs)
          have HD : Hid (∀ wx, Errs A S wx → Calls Tryz.prog 99 #[.int .i64 n, .int .i64 q.all, .int .i64 q.total] wx fun e w' => e = .returned (.tuple #[.int .i64 (overN n q.all q.total), .nilIface]) ∧ Dr wx w') := (fun wx hE => (part_Down A S n q.all q.total wx hE h2).mono fun e w' ⟨he, hd⟩ => ⟨by rw [he, eo], hd⟩ : ∀ wx, Errs A S wx → Calls Tryz.prog 99 #[.int .i64 n, .int .i64 q.all, .int .i64 q.total] wx fun e w' => e = .returned (.tuple #[.int .i64 (overN n q.all q.total), .nilIface]) ∧ Dr wx w')
          clear y1 y2 hjc hjs hO hl h eo
          generalize overN n q.all q.total = s at *
          rcases hw with ⟨w1, hj⟩ | ⟨w1, w2, hj⟩ | ⟨w1, w2, w3, hj⟩ | ⟨w1, w2, w3, hj⟩
          iterate 3
            · have E1 := Lib.hid hj; clear hj HOK
              go_enter Tryz.func79, Tryz.ntmps79
              go_wp2_with (go_at_call 98; refine (pool_look A S _ _ _ HE.out h2).mono ?_; rintro e w' ⟨rfl, rfl⟩; rw [el])
              go_quiet ((go_at_call 99; exact Calls.quiet_of ((HD.out _ (HE.out.drewN _)).mono fun _ _ ⟨a, k, b⟩ => ⟨a, k, b.symm⟩)))
              go_wp2_with (go_at_call 77; refine (part_Amount _ _).mono ?_; rintro e w' ⟨rfl, rfl⟩)
              go_ret
              exact ⟨by rw [E1.out]; rfl, by rw [E1.out]; exact HP.out.same _⟩
          · have E1 := Lib.hid hj
            have hok := HOK.out; rw [hj] at hok
            have HC := Lib.hid (fun wx hp => pool_change b mb m q o s n wx hp ho hok (by omega) (by omega) hm)
            clear hj HOK hok
            go_enter Tryz.func79, Tryz.ntmps79
            go_wp2_with (go_at_call 98; refine (pool_look A S _ _ _ HE.out h2).mono ?_; rintro e w' ⟨rfl, rfl⟩; rw [el])
            go_quiet ((go_at_call 99; exact Calls.quiet_of ((HD.out _ (HE.out.drewN _)).mono fun _ _ ⟨a, k, b⟩ => ⟨a, k, b.symm⟩)))
            go_wp2_with (first
              | (go_at_call 77; refine (part_Amount _ _).mono ?_; rintro e w' ⟨rfl, rfl⟩)
              | (go_at_call 100; refine (HC.out _ (HP.out.drewN _)).mono ?_; rintro e w' ⟨rfl, hk⟩))
            go_ret
            exact ⟨by rw [E1.out]; rfl, by rw [E1.out]; exact hk.from⟩
        · obtain ⟨y1, y2, _⟩ := over_no hO
          have E1 := Lib.hid (show q.joinOp o n = (2, q) by unfold QS.joinOp; rw [if_neg (by rw [hl]; simp), if_neg (by omega), if_pos (by unfold QS.joinC; rw [if_pos h0, y1]; simp)])
          have eo : ev A (overC n q.all q.total) = .iface 235 (.pointer (some (A 2))) := by rw [y1]; rfl
          have HD : Hid (∀ wx, Errs A S wx → Calls Tryz.prog 99 #[.int .i64 n, .int .i64 q.all, .int .i64 q.total] wx fun e w' => e = .returned (.tuple #[.int .i64 0, .iface 235 (.pointer (some (A 2)))]) ∧ Dr wx w') := (fun wx hE => (part_Down A S n q.all q.total wx hE h2).mono fun e w' ⟨he, hd⟩ => ⟨by rw [he, eo, y2], hd⟩ : ∀ wx, Errs A S wx → Calls Tryz.prog 99 #[.int .i64 n, .int .i64 q.all, .int .i64 q.total] wx fun e w' => e = .returned (.tuple #[.int .i64 0, .iface 235 (.pointer (some (A 2)))]) ∧ Dr wx w')
          clear y1 y2 hO hl h eo
          go_enter Tryz.func79, Tryz.ntmps79
          go_wp2_with (go_at_call 98; refine (pool_look A S _ _ _ HE.out h2).mono ?_; rintro e w' ⟨rfl, rfl⟩; rw [el])
          go_quiet ((go_at_call 99; exact Calls.quiet_of ((HD.out _ (HE.out.drewN _)).mono fun _ _ ⟨a, k, b⟩ => ⟨a, k, b.symm⟩)))
          go_wp2
          go_ret
          exact ⟨by rw [E1.out]; rfl, by rw [E1.out]; exact HP.out.same _⟩
    · have hU : q.all = 0 := by omega
      have hjc : q.joinC n = 0 := by unfold QS.joinC; rw [if_neg h0]
      have hjs : q.joinS n = n := by unfold QS.joinS; rw [if_neg h0]
      have hw := join_ways h.ok hn1 (by omega) (joinOp_of hl (by omega) hjc hjs)
      clear hl h hjc hjs h0
      rw [hU] at c1
      rw [hU, Int.zero_add] at hw
      rcases hw with ⟨w1, hj⟩ | ⟨w1, w2, hj⟩ | ⟨w1, w2, w3, hj⟩ | ⟨w1, w2, w3, hj⟩
      iterate 3
        · have E1 := Lib.hid hj; clear hj HOK
          go_enter Tryz.func79, Tryz.ntmps79
          go_wp2_with (first | (go_at_call 98; refine (pool_look A S _ _ _ HE.out h2).mono ?_; rintro e w' ⟨rfl, rfl⟩; rw [el]) | (go_at_call 77; refine (part_Amount _ _).mono ?_; rintro e w' ⟨rfl, rfl⟩))
          go_ret
          exact ⟨by rw [E1.out]; rfl, by rw [E1.out]; exact HP.out.same0⟩
      · have E1 := Lib.hid hj
        have hok := HOK.out; rw [hj] at hok
        have HC := Lib.hid (fun wx hp => pool_change b mb m q o n n wx hp ho hok (by omega) (by omega) hm)
        clear hj HOK hok
        go_enter Tryz.func79, Tryz.ntmps79
        go_wp2_with (first
          | (go_at_call 98; refine (pool_look A S _ _ _ HE.out h2).mono ?_; rintro e w' ⟨rfl, rfl⟩; rw [el])
          | (go_at_call 77; refine (part_Amount _ _).mono ?_; rintro e w' ⟨rfl, rfl⟩)
          | (go_at_call 100; refine (HC.out _ HP.out).mono ?_; rintro e w' ⟨rfl, hk⟩))
        go_ret
        exact ⟨by rw [E1.out]; rfl, by rw [E1.out]; exact hk⟩
  · have hl2 : plookC o n = 2 := by unfold plookC at hl ⊢; split at hl <;> simp_all
    have E1 := Lib.hid (show q.joinOp o n = (2, q) by unfold QS.joinOp; rw [if_pos hl])
    have el : ev A (plookC o n) = .iface 235 (.pointer (some (A 2))) := by rw [hl2]; rfl
    clear hl hl2 h
    go_enter Tryz.func79, Tryz.ntmps79
    go_wp2_with (go_at_call 98; refine (pool_look A S _ _ _ HE.out h2).mono ?_; rintro e w' ⟨rfl, rfl⟩; rw [el])
    go_ret
    exact ⟨by rw [E1.out]; rfl, by rw [E1.out]; exact HP.out.same0⟩

set_option maxRecDepth 8000 in
set_option maxHeartbeats 1000000 in
theorem pool_Take (A : Nat → Addr) (S : List Nat) (b mb m : Nat) (q : QS) (o n : Int) (w : World) (hE : Errs A S w) (h2 : 2 ∈ S) (h6 : 6 ∈ S) (h : PoolAt b mb m q w) (hm : m < maxLen) :
    Calls Tryz.prog 107 #[.pointer (some ⟨b, 0, none⟩), .int .i64 o, .int .i64 n] w fun e w' => e = .returned (ev A (q.takeOp o n).1) ∧ PoolP b mb (m + 1) (q.takeOp o n).2 w w' := by
  have g6 : w.cell? ⟨5, 0, none⟩ = some (.iface 235 (.pointer (some (A 6)))) := hE.cell 6 h6
  have c0 := h.c0
  have c1 := h.c1
  have HE := Lib.hid hE; clear hE
  have HP := Lib.hid h
  have t0 := h.ok.t0
  have t1 := h.ok.t1
  have a0 := h.ok.all0
  have a1 := h.ok.a1
  by_cases hl : plookC o n = 0
  · obtain ⟨ho, hn1, hn2⟩ := plookC_zero.1 hl
    obtain ⟨o0, o1⟩ := ownB_iff.1 ho
    have hwf : (Lit.int .i64 o).wf = true := WalkArith.wf_i64 (by omega)
    have el : ev A (plookC o n) = .nilIface := by rw [hl]; rfl
    have HOK := Lib.hid (QS.takeOp_ok h.ok o n)
    by_cases hv : q.value o < n
    · have E1 := Lib.hid (show q.takeOp o n = (6, q) by unfold QS.takeOp; rw [if_neg (by rw [hl]; simp), if_pos hv])
      have hd : decide (q.value o < n) = true := by simp [hv]
      clear h hl hv HOK
      go_enter Tryz.func107, Tryz.ntmps107
      go_wp2_with (first | (go_at_call 98; refine (pool_look A S _ _ _ HE.out h2).mono ?_; rintro e w' ⟨rfl, rfl⟩; rw [el]) | (go_at_call 94; refine (pool_Value A S b mb m q o _ HE.out h2 HP.out hwf).mono ?_; rintro e w1 ⟨rfl, k, hk⟩; have c0' : w1.cell? ⟨b, 0, none⟩ = some (.int .i64 q.total) := (by rw [← hk]; exact c0); have c1' : w1.cell? ⟨b, 1, none⟩ = some (.int .i64 q.all) := (by rw [← hk]; exact c1); have g6' : w1.cell? ⟨5, 0, none⟩ = some (.iface 235 (.pointer (some (A 6)))) := (by rw [← hk]; exact g6); have HE1 : Hid (Errs A S w1) := (by rw [← hk]; exact HE.out.drewN k : Errs A S w1); have HP1 : Hid (PoolAt b mb m q w1) := (by rw [← hk]; exact HP.out.drewN k : PoolAt b mb m q w1); have HK := Lib.hid hk; clear hk))
      go_ret
      exact ⟨by rw [E1.out]; rfl, by rw [E1.out, ← HK.out]; exact HP.out.same _⟩
    · have hd : decide (q.value o < n) = false := by simp; omega
      obtain ⟨u1, u2, u3, u4, u5, u6⟩ := h.ok.take_bd hn1 (by omega : n ≤ q.value o)
      have hat := h.ok.at_bd o
      have eo : ev A (upC n q.all q.total) = .nilIface := by rw [u1]; rfl
      have HD : Hid (∀ wx, Errs A S wx → Calls Tryz.prog 128 #[.int .i64 n, .int .i64 q.all, .int .i64 q.total] wx fun e w' => e = .returned (.tuple #[.int .i64 (upN n q.all q.total), .nilIface]) ∧ Dr wx w') := (fun wx hE => (part_Up A S n q.all q.total wx hE h2).mono fun e w' ⟨he, hd⟩ => ⟨by rw [he, eo], hd⟩ : ∀ wx, Errs A S wx → Calls Tryz.prog 128 #[.int .i64 n, .int .i64 q.all, .int .i64 q.total] wx fun e w' => e = .returned (.tuple #[.int .i64 (upN n q.all q.total), .nilIface]) ∧ Dr wx w')
      have hop : q.takeOp o n = if upN n q.all q.total = q.all ∧ n < q.total then (6, q) else (0, q.change o (-upN n q.all q.total) (-n)) := by unfold QS.takeOp; rw [if_neg (by rw [hl]; simp), if_neg hv]
      have hs0 : 0 ≤ upN n q.all q.total := by omega
      have hs1 : upN n q.all q.total ≤ 1125899906842624 := by omega
      clear u1 u2 u3 u4 u5 u6 eo hl h hv
      generalize upN n q.all q.total = s at *
      have hways : ((s == q.all) = true ∧ decide (n < q.total) = true ∧ q.takeOp o n = (6, q)) ∨ (((s == q.all) = false ∨ ((s == q.all) = true ∧ decide (n < q.total) = false)) ∧ q.takeOp o n = (0, q.change o (-s) (-n))) := by
        by_cases e1 : s = q.all
        · by_cases e2 : n < q.total
          · exact .inl ⟨by simp [e1], by simp [e2], by rw [hop, if_pos ⟨e1, e2⟩]⟩
          · exact .inr ⟨.inr ⟨by simp [e1], by simp; omega⟩, by rw [hop, if_neg (fun h => e2 h.2)]⟩
        · exact .inr ⟨.inl (by simp [e1]), by rw [hop, if_neg (fun h => e1 h.1)]⟩
      clear hop
      rcases hways with ⟨d1, d2, hj⟩ | ⟨d1 | ⟨d1, d2⟩, hj⟩
      · have E1 := Lib.hid hj
        clear hj HOK
        go_enter Tryz.func107, Tryz.ntmps107
        go_wp2_with (first | (go_at_call 98; refine (pool_look A S _ _ _ HE.out h2).mono ?_; rintro e w' ⟨rfl, rfl⟩; rw [el]) | (go_at_call 94; refine (pool_Value A S b mb m q o _ HE.out h2 HP.out hwf).mono ?_; rintro e w1 ⟨rfl, k, hk⟩; have c0' : w1.cell? ⟨b, 0, none⟩ = some (.int .i64 q.total) := (by rw [← hk]; exact c0); have c1' : w1.cell? ⟨b, 1, none⟩ = some (.int .i64 q.all) := (by rw [← hk]; exact c1); have g6' : w1.cell? ⟨5, 0, none⟩ = some (.iface 235 (.pointer (some (A 6)))) := (by rw [← hk]; exact g6); have HE1 : Hid (Errs A S w1) := (by rw [← hk]; exact HE.out.drewN k : Errs A S w1); have HP1 : Hid (PoolAt b mb m q w1) := (by rw [← hk]; exact HP.out.drewN k : PoolAt b mb m q w1); have HK := Lib.hid hk; clear hk))
        go_quiet ((go_at_call 128; exact Calls.quiet_of ((HD.out _ (HE1.out.drewN _)).mono fun _ _ ⟨a, k, b⟩ => ⟨a, k, b.symm⟩)))
        go_wp2
        go_ret
        exact ⟨by rw [E1.out]; rfl, by rw [E1.out]; have := HP1.out.same nq; rw [← HK.out] at this ⊢; exact this.from⟩
      all_goals
        have E1 := Lib.hid hj
        have hok := HOK.out; rw [hj] at hok
        have HC := Lib.hid (fun wx hp => pool_change b mb m q o (-s) (-n) wx hp ho hok (by omega) (by omega) hm)
        clear hj HOK hok
        go_enter Tryz.func107, Tryz.ntmps107
        go_wp2_with (first | (go_at_call 98; refine (pool_look A S _ _ _ HE.out h2).mono ?_; rintro e w' ⟨rfl, rfl⟩; rw [el]) | (go_at_call 94; refine (pool_Value A S b mb m q o _ HE.out h2 HP.out hwf).mono ?_; rintro e w1 ⟨rfl, k, hk⟩; have c0' : w1.cell? ⟨b, 0, none⟩ = some (.int .i64 q.total) := (by rw [← hk]; exact c0); have c1' : w1.cell? ⟨b, 1, none⟩ = some (.int .i64 q.all) := (by rw [← hk]; exact c1); have g6' : w1.cell? ⟨5, 0, none⟩ = some (.iface 235 (.pointer (some (A 6)))) := (by rw [← hk]; exact g6); have HE1 : Hid (Errs A S w1) := (by rw [← hk]; exact HE.out.drewN k : Errs A S w1); have HP1 : Hid (PoolAt b mb m q w1) := (by rw [← hk]; exact HP.out.drewN k : PoolAt b mb m q w1); have HK := Lib.hid hk; clear hk))
        go_quiet ((go_at_call 128; exact Calls.quiet_of ((HD.out _ (HE1.out.drewN _)).mono fun _ _ ⟨a, k, b⟩ => ⟨a, k, b.symm⟩)))
        go_wp2_with (go_at_call 100; refine (HC.out _ (HP1.out.drewN _)).mono ?_; rintro e w' ⟨rfl, hk⟩)
        go_ret
        exact ⟨by rw [E1.out]; rfl, by rw [E1.out]; rw [← HK.out] at hk; exact hk.from.from⟩
  · have hl2 : plookC o n = 2 := by unfold plookC at hl ⊢; split at hl <;> simp_all
    have E1 := Lib.hid (show q.takeOp o n = (2, q) by unfold QS.takeOp; rw [if_pos hl])
    have el : ev A (plookC o n) = .iface 235 (.pointer (some (A 2))) := by rw [hl2]; rfl
    clear hl hl2 h
    go_enter Tryz.func107, Tryz.ntmps107
    go_wp2_with (go_at_call 98; refine (pool_look A S _ _ _ HE.out h2).mono ?_; rintro e w' ⟨rfl, rfl⟩; rw [el])
    go_ret
    exact ⟨by rw [E1.out]; rfl, by rw [E1.out]; exact HP.out.same0⟩

set_option maxRecDepth 8000 in
set_option maxHeartbeats 1000000 in
theorem pool_Leave (A : Nat → Addr) (S : List Nat) (b mb m : Nat) (q : QS) (o : Int) (w : World) (hE : Errs A S w) (h2 : 2 ∈ S) (h4 : 4 ∈ S) (h : PoolAt b mb m q w) (hm : m < maxLen) :
    Calls Tryz.prog 108 #[.pointer (some ⟨b, 0, none⟩), .int .i64 o] w fun e w' => e = .returned (.tuple #[.int .i64 (q.leaveOp o).1, ev A (q.leaveOp o).2.1]) ∧ PoolP b mb (m + 1) (q.leaveOp o).2.2 w w' := by
  have g2 : w.cell? ⟨0, 0, none⟩ = some (.iface 235 (.pointer (some (A 2)))) := hE.cell 2 h2
  have g4 : w.cell? ⟨3, 0, none⟩ = some (.iface 235 (.pointer (some (A 4)))) := hE.cell 4 h4
  have c2 := h.c2
  have HE := Lib.hid hE; clear hE
  have HP := Lib.hid h
  have t1 := h.ok.t1
  have a0 := h.ok.all0
  have a1 := h.ok.a1
  by_cases ho : ownB o = true
  · obtain ⟨o0, o1⟩ := ownB_iff.1 ho
    have hwf : (Lit.int .i64 o).wf = true := WalkArith.wf_i64 (by omega)
    have hat := h.ok.at_bd o
    have hv := h.ok.value_bd o
    obtain ⟨D, hown, hD⟩ := h.own
    obtain ⟨c, hrun, hc, _⟩ := hown.lookup_int keyI Tryz.underlying129 Tryz.underlying3 (zeroI _) (keyOf_int_mk Tryz.underlying3 hwf)
    obtain rfl : q.at o = c := by have := (hD o).symm.trans hc; simpa using this
    clear hown hD hc
    by_cases hz : q.at o = 0
    · have E1 := Lib.hid (show q.leaveOp o = (0, 4, q) by unfold QS.leaveOp; rw [if_neg (by rw [ho]; simp), if_pos hz])
      rw [hz] at hrun
      clear h hz hat hv
      go_enter Tryz.func108, Tryz.ntmps108
      go_wp2
      go_quiet (fail)
      go_wp2
      go_ret2
      exact ⟨by rw [E1.out]; rfl, by rw [E1.out]; exact HP.out.same _⟩
    · have hz' : (q.at o == 0) = false := by simp [hz]
      have hj : q.leaveOp o = (q.value o, 0, q.change o (-q.at o) (-q.value o)) := by unfold QS.leaveOp; rw [if_neg (by rw [ho]; simp), if_neg hz]
      have E1 := Lib.hid hj
      have hok := QS.leaveOp_ok h.ok o
      rw [hj] at hok
      have HC := Lib.hid (fun wx hp => pool_change b mb m q o (-q.at o) (-q.value o) wx hp ho hok (by omega) (by omega) hm)
      clear hj hok hz h
      go_enter Tryz.func108, Tryz.ntmps108
      go_wp2_with (first
        | (go_at_call 94; refine (pool_Value A S b mb m q o _ HE.out h2 HP.out hwf).mono ?_; rintro e w' ⟨rfl, k, hk⟩; subst hk)
        | (go_at_call 100; refine (HC.out _ (HP.out.drewN _)).mono ?_; rintro e w' ⟨rfl, hk⟩))
      go_ret2
      exact ⟨by rw [E1.out]; rfl, by rw [E1.out]; exact hk.from⟩
  · have ho' : ownB o = false := by simpa using ho
    have E1 := Lib.hid (show q.leaveOp o = (0, 2, q) by unfold QS.leaveOp; rw [if_pos ho'])
    have hcases : o < 0 ∨ (0 ≤ o ∧ 6 ≤ o) := by rw [ownB_iff] at ho; omega
    clear h ho ho'
    rcases hcases with d1 | ⟨d1, d2⟩
    all_goals
      go_enter Tryz.func108, Tryz.ntmps108
      go_wp2
      go_quiet (fail)
      go_wp2
      go_ret2
      exact ⟨by rw [E1.out]; rfl, by rw [E1.out]; exact HP.out.same _⟩

/-- the pool's total alone has turned -/
theorem PoolAt.setTotal0 {b mb n : Nat} {q : QS} {w : World} (h : PoolAt b mb n q w) (t : Int) (hok : (QS.mk t q.all q.sh).Ok) : PoolP b mb n ⟨t, q.all, q.sh⟩ w (w.setCell ⟨b, 0, none⟩ (.int .i64 t)) := by
  obtain ⟨D, hown, hD⟩ := h.own
  refine ⟨(Keep.refl _ _).setCell (p := ⟨b, 0, none⟩) (.inl (.inl rfl)) _, hok, h.row.set 0 _, ⟨D, ?_, fun k => hD k⟩, h.ne⟩
  exact hown.setCell (a := ⟨b, 0, none⟩) (fun e => h.ne e.symm) _
theorem PoolAt.setTotal {b mb n : Nat} {q : QS} {w : World} (h : PoolAt b mb n q w) (t : Int) (hok : (QS.mk t q.all q.sh).Ok) : PoolP b mb (n + 1) ⟨t, q.all, q.sh⟩ w (w.setCell ⟨b, 0, none⟩ (.int .i64 t)) := by
  obtain ⟨D, hown, hD⟩ := h.own
  refine ⟨(Keep.refl _ _).setCell (p := ⟨b, 0, none⟩) (.inl (.inl rfl)) _, hok, h.row.set 0 _, ⟨D, ?_, fun k => hD k⟩, h.ne⟩
  exact (hown.mono (Nat.le_succ n)).setCell (a := ⟨b, 0, none⟩) (fun e => h.ne e.symm) _

set_option maxRecDepth 8000 in
theorem pool_Add (A : Nat → Addr) (S : List Nat) (b mb m : Nat) (q : QS) (n : Int) (w : World) (hE : Errs A S w) (h2 : 2 ∈ S) (h4 : 4 ∈ S) (h : PoolAt b mb m q w) :
    Calls Tryz.prog 164 #[.pointer (some ⟨b, 0, none⟩), .int .i64 n] w fun e w' => e = .returned (ev A (q.addOp n).1) ∧ PoolP b mb (m + 1) (q.addOp n).2 w w' := by
  have g2 : w.cell? ⟨0, 0, none⟩ = some (.iface 235 (.pointer (some (A 2)))) := hE.cell 2 h2
  have g4 : w.cell? ⟨3, 0, none⟩ = some (.iface 235 (.pointer (some (A 4)))) := hE.cell 4 h4
  have c0 := h.c0
  have c1 := h.c1
  have f0 := h.row.frozen 0
  clear hE
  have HP := Lib.hid h
  have t0 := h.ok.t0
  have t1 := h.ok.t1
  have HOK := Lib.hid (QS.addOp_ok h.ok n)
  by_cases hn : amtB n = true
  · obtain ⟨n0, n1⟩ := amtB_iff.1 hn
    by_cases hz : q.all = 0
    · have E1 := Lib.hid (show q.addOp n = (4, q) by unfold QS.addOp; rw [if_neg (by rw [hn]; simp), if_pos hz])
      rw [hz] at c1
      clear h HOK
      go_enter Tryz.func164, Tryz.ntmps164
      go_wp2_with (go_at_call 77; refine (part_Amount _ _).mono ?_; rintro e w' ⟨rfl, rfl⟩)
      go_ret
      exact ⟨by rw [E1.out]; rfl, by rw [E1.out]; exact HP.out.same0⟩
    · have hz' : (q.all == 0) = false := by simp [hz]
      by_cases ht : amtB (q.total + n) = true
      · have hj : q.addOp n = (0, ⟨q.total + n, q.all, q.sh⟩) := by unfold QS.addOp; rw [if_neg (by rw [hn]; simp), if_neg hz, if_neg (by rw [amtB_iff] at ht; omega)]
        have E1 := Lib.hid hj
        have hok := HOK.out; rw [hj] at hok
        have HS := Lib.hid (HP.out.setTotal _ hok)
        clear h HOK hok hj hz
        go_enter Tryz.func164, Tryz.ntmps164
        go_wp2_with (go_at_call 77; refine (part_Amount _ _).mono ?_; rintro e w' ⟨rfl, rfl⟩)
        go_ret
        exact ⟨by rw [E1.out]; rfl, by rw [E1.out]; exact HS.out⟩
      · have ht' : amtB (q.total + n) = false := by simpa using ht
        have E1 := Lib.hid (show q.addOp n = (2, q) by unfold QS.addOp; rw [if_neg (by rw [hn]; simp), if_neg hz, if_pos (by rw [amtB_iff] at ht; omega)])
        clear h HOK hz ht
        go_enter Tryz.func164, Tryz.ntmps164
        go_wp2_with (go_at_call 77; refine (part_Amount _ _).mono ?_; rintro e w' ⟨rfl, rfl⟩)
        go_ret
        exact ⟨by rw [E1.out]; rfl, by rw [E1.out]; exact HP.out.same0⟩
  · have hn' : amtB n = false := by simpa using hn
    have E1 := Lib.hid (show q.addOp n = (2, q) by unfold QS.addOp; rw [if_pos hn'])
    clear h HOK hn
    go_enter Tryz.func164, Tryz.ntmps164
    go_wp2_with (go_at_call 77; refine (part_Amount _ _).mono ?_; rintro e w' ⟨rfl, rfl⟩)
    go_ret
    exact ⟨by rw [E1.out]; rfl, by rw [E1.out]; exact HP.out.same0⟩

set_option maxRecDepth 8000 in
theorem pool_Slash0 (A : Nat → Addr) (S : List Nat) (b mb m : Nat) (q : QS) (n : Int) (w : World) (hE : Errs A S w) (h2 : 2 ∈ S) (h : PoolAt b mb m q w) :
    Calls Tryz.prog 166 #[.pointer (some ⟨b, 0, none⟩), .int .i64 n] w fun e w' => e = .returned (.tuple #[.int .i64 (q.slashOp n).1, ev A (q.slashOp n).2.1]) ∧ PoolP b mb m (q.slashOp n).2.2 w w' := by
  have g2 : w.cell? ⟨0, 0, none⟩ = some (.iface 235 (.pointer (some (A 2)))) := hE.cell 2 h2
  have c0 := h.c0
  have f0 := h.row.frozen 0
  have HE := Lib.hid hE
  clear hE
  have HP := Lib.hid h
  have t0 := h.ok.t0
  have t1 := h.ok.t1
  have HOK := Lib.hid (QS.slashOp_ok h.ok n)
  by_cases hn : n < 0 ∨ 100 < n
  · have E1 := Lib.hid (show q.slashOp n = (0, 2, q) by unfold QS.slashOp; rw [if_pos hn])
    have hcases : n < 0 ∨ (0 ≤ n ∧ 100 < n) := by omega
    clear h HOK hn
    rcases hcases with d1 | ⟨d1, d2⟩
    all_goals
      go_enter Tryz.func166, Tryz.ntmps166
      go_wp2
      go_quiet (fail)
      go_wp2
      go_ret2
      exact ⟨by rw [E1.out]; rfl, by rw [E1.out]; exact HP.out.sameN _⟩
  · have hj : q.slashOp n = (q.total * n / 100, 0, ⟨q.total - q.total * n / 100, q.all, q.sh⟩) := by unfold QS.slashOp; rw [if_neg hn]
    have E1 := Lib.hid hj
    have hok := HOK.out; rw [hj] at hok
    have n0 : 0 ≤ n := by omega
    have n1 : n ≤ 100 := by omega
    have hb := slash_bd t0 n0 n1
    obtain ⟨y1, y2, _⟩ := over_yes (show overOk q.total n 100 from ⟨⟨t0, t1⟩, ⟨n0, by omega⟩, by omega, by omega⟩)
    have eo : ev A (overC q.total n 100) = .nilIface := by rw [y1]; rfl
    have HS := Lib.hid (fun k => (HP.out.drewN k).setTotal0 _ hok)
    have HD : Hid (∀ wx, Errs A S wx → Calls Tryz.prog 99 #[.int .i64 q.total, .int .i64 n, .int .i64 100] wx fun e w' => e = .returned (.tuple #[.int .i64 (q.total * n / 100), .nilIface]) ∧ Dr wx w') := (fun wx hE => (part_Down A S q.total n 100 wx hE h2).mono fun e w' ⟨he, hd⟩ => ⟨by rw [he, eo, y2], hd⟩ : ∀ wx, Errs A S wx → Calls Tryz.prog 99 #[.int .i64 q.total, .int .i64 n, .int .i64 100] wx fun e w' => e = .returned (.tuple #[.int .i64 (q.total * n / 100), .nilIface]) ∧ Dr wx w')
    clear y1 y2 eo hok hj HOK h hn
    generalize q.total * n / 100 = x at *
    generalize q.total = T at *
    go_enter Tryz.func166, Tryz.ntmps166
    go_wp2_with (go_at_call 99; refine (HD.out _ HE.out).mono ?_; rintro e w' ⟨rfl, k, hk⟩; subst hk)
    go_ret2
    exact ⟨by rw [E1.out]; rfl, by rw [E1.out]; exact (HS.out k).from⟩
theorem pool_Slash (A : Nat → Addr) (S : List Nat) (b mb m : Nat) (q : QS) (n : Int) (w : World) (hE : Errs A S w) (h2 : 2 ∈ S) (h : PoolAt b mb m q w) :
    Calls Tryz.prog 166 #[.pointer (some ⟨b, 0, none⟩), .int .i64 n] w fun e w' => e = .returned (.tuple #[.int .i64 (q.slashOp n).1, ev A (q.slashOp n).2.1]) ∧ PoolP b mb (m + 1) (q.slashOp n).2.2 w w' :=
  (pool_Slash0 A S b mb m q n w hE h2 h).mono fun _ _ ⟨a, k, p⟩ => ⟨a, k, p.mono (Nat.le_succ m)⟩
end Go.Proofs.YtajnfkmkombajabGreatDoor
namespace Go.Proofs.YtajnfkmkombajabGreatDoor
open Go.RowKit Go.Maps

/-- a pointer to the beginning of a block reads as the block's number; nil is not read -/
def blkElem (v : Value) : Option (DataW Unit × List MemPlace) :=
  match v with
  | .pointer (some a) => if a.off = 0 ∧ a.spot = none then some (.lit (.int .i64 a.block), []) else none
  | _ => none
theorem blkElem_mk (b : Nat) : blkElem (.pointer (some ⟨b, 0, none⟩)) = some (.lit (.int .i64 b), []) := by simp [blkElem]
theorem blkElem_inv {v : Value} {y : DataW Unit × List MemPlace} (h : blkElem v = some y) : ∃ b : Nat, v = .pointer (some ⟨b, 0, none⟩) ∧ y = (.lit (.int .i64 b), []) := by
  unfold blkElem at h
  split at h
  · next a =>
    split at h
    · next hc =>
      cases h
      obtain ⟨b, o, s⟩ := a
      simp only at hc
      obtain ⟨rfl, rfl⟩ := hc
      exact ⟨b, rfl, rfl⟩
    · cases h
  · cases h
theorem blkElem_is {v : Value} {b : Nat} {ps : List MemPlace} (h : blkElem v = some (.lit (.int .i64 b), ps)) : v = .pointer (some ⟨b, 0, none⟩) := by
  obtain ⟨b', h1, h2⟩ := blkElem_inv h
  simp only [Prod.mk.injEq, DataW.lit.injEq, Lit.int.injEq, true_and] at h2
  obtain ⟨e, _⟩ := h2
  have : b = b' := by omega
  rw [h1, this]

/-- what a block is for -/
inductive Role where
  | none
  | top
  | bak (k : Nat)
  | wai (k : Nat)
  | poo (k : Nat) (c : Option Int)
  | map (k : Nat) (c : Option Int)
/-- where what lies: bakers, the maps of what waits, pools and their maps; what each block is for -/
structure Lay where
  bb : Nat → Nat
  wm : Nat → Nat
  pb : Nat → Option Int → Nat
  pm : Nat → Option Int → Nat
  role : Nat → Role

def bptr (s : SS) (L : Lay) (k : Nat) : Value := if s.is k then .pointer (some ⟨L.bb k, 0, none⟩) else .pointer none
def waitD (L : Lay) (k : Nat) (c : Int) (o : Option QS) : DataW Unit := if o.isSome then .lit (.int .i64 (L.pb k (some c))) else .nil

structure StakesL (sb : Nat) (L : Lay) (n : Nat) (s : SS) (w : World) : Prop where
  ok : s.Ok
  top : RowAt sb 82 [bptr s L 0, bptr s L 1, bptr s L 2] w
  rtop : L.role sb = .top
  bak : ∀ k : Nat, k < 3 → s.is k = true → RowAt (L.bb k) 93 [.pointer (some ⟨L.pb k none, 0, none⟩), .map (some (L.wm k))] w ∧ L.role (L.bb k) = .bak k
  wai : ∀ k : Nat, k < 3 → s.is k = true → L.role (L.wm k) = .wai k ∧ ∃ D : DataW Unit, w.ownsMap Tryz.prog 3 blkElem (L.wm k) n D ∧ ∀ c : Int, D.atKey (.int .i64 c) .nil = waitD L k c (s.find k c)
  poo : ∀ (k : Nat) oc q, k < 3 → s.get k oc = some q → PoolAt (L.pb k oc) (L.pm k oc) n q w ∧ L.role (L.pb k oc) = .poo k oc ∧ L.role (L.pm k oc) = .map k oc
/-- block sb is stakes that hold s, among the blocks F -/
def StakesAt (sb : Nat) (F : Nat → Prop) (n : Nat) (s : SS) (w : World) : Prop := ∃ L, StakesL sb L n s w ∧ (∀ b, L.role b ≠ .none → F b) ∧ ∀ b, F b → b < w.heap.size

section
variable {sb n : Nat} {L : Lay} {s : SS} {w w' : World}
theorem StakesL.cell (h : StakesL sb L n s w) {k : Nat} (hk : k < 3) : w.cell? ⟨sb, k, none⟩ = some (bptr s L k) := by
  rw [h.top.cell]
  match k, hk with
  | 0, _ => rfl
  | 1, _ => rfl
  | 2, _ => rfl
theorem StakesL.baker (h : StakesL sb L n s w) {k : Nat} (hk : k < 3) (hi : s.is k = true) : w.cell? ⟨L.bb k, 0, none⟩ = some (.pointer (some ⟨L.pb k none, 0, none⟩)) ∧ w.cell? ⟨L.bb k, 1, none⟩ = some (.map (some (L.wm k))) := by
  have := (h.bak k hk hi).1
  exact ⟨by rw [this.cell]; rfl, by rw [this.cell]; rfl⟩
theorem bptr_yes {s : SS} {L : Lay} {k : Nat} (h : s.is k = true) : bptr s L k = .pointer (some ⟨L.bb k, 0, none⟩) := if_pos h
theorem bptr_no {s : SS} {L : Lay} {k : Nat} (h : s.is k = false) : bptr s L k = .pointer none := if_neg (by simp [h])
theorem SS.is_pool {s : SS} {k : Nat} : s.is (k : Int) = (s.get k none).isSome := by unfold SS.is SS.get; rw [SS.pool_nat]
theorem StakesL.keep {F : Nat → Prop} (h : StakesL sb L n s w) (k : Keep F w w') (hF : ∀ b, L.role b ≠ .none → ¬ F b) : StakesL sb L n s w' := by
  refine ⟨h.ok, h.top.keep k (hF _ (by rw [h.rtop]; simp)), h.rtop, fun j hj hi => ?_, fun j hj hi => ?_, fun j oc q hj hg => ?_⟩
  · obtain ⟨h1, h2⟩ := h.bak j hj hi
    exact ⟨h1.keep k (hF _ (by rw [h2]; simp)), h2⟩
  · obtain ⟨h1, D, h2, h3⟩ := h.wai j hj hi
    obtain ⟨es, clock, e1, e2⟩ := h2
    exact ⟨h1, D, ⟨es, clock, k.heap e1 (hF _ (by rw [h1]; simp)), e2⟩, h3⟩
  · obtain ⟨h1, h2, h3⟩ := h.poo j oc q hj hg
    exact ⟨h1.keep k (hF _ (by rw [h2]; simp)) (hF _ (by rw [h3]; simp)), h2, h3⟩
theorem StakesL.mono (h : StakesL sb L n s w) {m : Nat} (hm : n ≤ m) : StakesL sb L m s w :=
  ⟨h.ok, h.top, h.rtop, h.bak, fun k hk hi => by obtain ⟨h1, D, h2, h3⟩ := h.wai k hk hi; exact ⟨h1, D, h2.mono hm, h3⟩, fun k oc q hk hg => by obtain ⟨h1, h2⟩ := h.poo k oc q hk hg; exact ⟨h1.mono hm, h2⟩⟩
theorem StakesL.drewN (h : StakesL sb L n s w) (k : Nat) : StakesL sb L n s (w.drewN k) :=
  ⟨h.ok, h.top.drewN k, h.rtop, fun j hj hi => ⟨(h.bak j hj hi).1.drewN k, (h.bak j hj hi).2⟩, h.wai, fun j oc q hj hg => ⟨(h.poo j oc q hj hg).1.drewN k, (h.poo j oc q hj hg).2⟩⟩

/-- one of the pools has turned -/
theorem StakesL.turn (h : StakesL sb L n s w) {k : Nat} {oc : Option Int} {q q' : QS} {m : Nat} (hk : k < 3) (hg : s.get k oc = some q) (hp : PoolP (L.pb k oc) (L.pm k oc) m q' w w') (hm : n ≤ m) {s' : SS} (hs : s'.Ok)
    (hi : ∀ j : Nat, j < 3 → s'.is j = s.is j) (hget : ∀ j oc', j < 3 → (j = k ∧ oc' = oc → s'.get j oc' = some q') ∧ (¬ (j = k ∧ oc' = oc) → s'.get j oc' = s.get j oc')) : StakesL sb L m s' w' := by
  obtain ⟨-, rb, rm⟩ := h.poo k oc q hk hg
  have hne : ∀ b r, L.role b = r → r ≠ .poo k oc → r ≠ .map k oc → ¬ (b = L.pb k oc ∨ b = L.pm k oc) := by
    intro b r hr h1 h2 hb
    rcases hb with rfl | rfl
    · exact h1 (hr.symm.trans rb)
    · exact h2 (hr.symm.trans rm)
  refine ⟨hs, ?_, h.rtop, fun j hj hij => ?_, fun j hj hij => ?_, fun j oc' r hj hgj => ?_⟩
  · have e : ∀ j, j < 3 → bptr s' L j = bptr s L j := fun j hj => by unfold bptr; rw [hi j hj]
    rw [e 0 (by omega), e 1 (by omega), e 2 (by omega)]
    exact h.top.keep hp.1 (hne sb _ h.rtop (by simp) (by simp))
  · rw [hi j hj] at hij
    obtain ⟨h1, h2⟩ := h.bak j hj hij
    exact ⟨h1.keep hp.1 (hne _ _ h2 (by simp) (by simp)), h2⟩
  · rw [hi j hj] at hij
    obtain ⟨h1, D, h2, h3⟩ := h.wai j hj hij
    obtain ⟨es, clock, e1, e2⟩ := h2.mono hm
    refine ⟨h1, D, ⟨es, clock, hp.1.heap e1 (hne _ _ h1 (by simp) (by simp)), e2⟩, fun c => ?_⟩
    rw [h3 c]
    obtain ⟨g1, g2⟩ := hget j (some c) hj
    unfold waitD
    by_cases hx : j = k ∧ some c = oc
    · have a := g1 hx
      have b : (s.get j (some c)).isSome = true := by obtain ⟨rfl, rfl⟩ := hx; rw [hg]; rfl
      have a' : (s'.find j c).isSome = true := by show (s'.get j (some c)).isSome = true; rw [a]; rfl
      have b' : (s.find j c).isSome = true := b
      rw [a', b']
    · have a := g2 hx
      have a' : s'.find j c = s.find j c := a
      rw [a']
  · obtain ⟨g1, g2⟩ := hget j oc' hj
    by_cases hx : j = k ∧ oc' = oc
    · rw [g1 hx] at hgj
      obtain ⟨rfl, rfl⟩ := hx
      cases hgj
      exact ⟨hp.2, rb, rm⟩
    · rw [g2 hx] at hgj
      obtain ⟨h1, h2, h3⟩ := h.poo j oc' r hj hgj
      refine ⟨(h1.mono hm).keep hp.1 (hne _ _ h2 ?_ ?_) (hne _ _ h3 ?_ ?_), h2, h3⟩
      all_goals (intro e; first | (injection e with e1 e2; exact hx ⟨e1, e2⟩) | cases e)
end

section
variable {sb n : Nat} {F G : Nat → Prop} {s : SS} {w w' : World}
theorem StakesAt.keep (h : StakesAt sb F n s w) (k : Keep G w w') (hG : ∀ b, F b → ¬ G b) : StakesAt sb F n s w' := by
  obtain ⟨L, h1, h2, h3⟩ := h
  exact ⟨L, h1.keep k (fun b hb => hG b (h2 b hb)), h2, fun b hb => Nat.lt_of_lt_of_le (h3 b hb) k.size⟩
theorem StakesAt.drewN (h : StakesAt sb F n s w) (k : Nat) : StakesAt sb F n s (w.drewN k) := by
  obtain ⟨L, h1, h2, h3⟩ := h
  exact ⟨L, h1.drewN k, h2, h3⟩
theorem StakesAt.mono (h : StakesAt sb F n s w) {m : Nat} (hm : n ≤ m) : StakesAt sb F m s w := by
  obtain ⟨L, h1, h2, h3⟩ := h
  exact ⟨L, h1.mono hm, h2, h3⟩
theorem StakesAt.below (h : StakesAt sb F n s w) (k : Below w.heap.size w w') : StakesAt sb F n s w' := h.keep (G := fun _ => False) (Keep.of_below k) (fun _ _ => id)
theorem StakesAt.ok (h : StakesAt sb F n s w) : s.Ok := h.choose_spec.1.ok
end

theorem is_cases {s : SS} (h : s.Ok) (k : Int) : (k < 0 ∧ s.is k = false) ∨ (0 ≤ k ∧ 3 ≤ k ∧ s.is k = false) ∨ ∃ j : Nat, k = j ∧ j < 3 := by
  by_cases h0 : k < 0
  · refine .inl ⟨h0, ?_⟩
    unfold SS.is; rw [SS.pool_out h (.inl h0)]; rfl
  · by_cases h3 : 3 ≤ k
    · refine .inr (.inl ⟨by omega, h3, ?_⟩)
      unfold SS.is; rw [SS.pool_out h (.inr h3)]; rfl
    · exact .inr (.inr ⟨k.toNat, by omega, by omega⟩)

set_option maxHeartbeats 400000 in
theorem stake_Is (sb : Nat) (L : Lay) (n : Nat) (s : SS) (k : Int) (w : World) (h : StakesL sb L n s w) :
    Calls Tryz.prog 29 #[.pointer (some ⟨sb, 0, none⟩), .int .i64 k] w fun e w' => e = .returned (.bool (s.is k)) ∧ w = w' := by
  rcases is_cases h.ok k with ⟨h0, hi⟩ | ⟨h0, h3, hi⟩ | ⟨j, rfl, hj⟩
  · have HI := Lib.hid hi
    clear h hi
    go_enter Tryz.func29, Tryz.ntmps29
    go_wp2
    go_ret
    exact ⟨by rw [HI.out]; rfl, rfl⟩
  · have HI := Lib.hid hi
    clear h hi
    go_enter Tryz.func29, Tryz.ntmps29
    go_wp2
    go_ret
    exact ⟨by rw [HI.out]; rfl, rfl⟩
  · have hc := h.cell hj
    cases hi : s.is (j : Int) with
    | true =>
      rw [bptr_yes hi] at hc
      clear h hi
      go_enter Tryz.func29, Tryz.ntmps29
      go_wp2
      go_ret
      exact ⟨rfl, rfl⟩
    | false =>
      rw [bptr_no hi] at hc
      clear h hi
      go_enter Tryz.func29, Tryz.ntmps29
      go_wp2
      go_ret
      exact ⟨rfl, rfl⟩

/-- a baker's address, and an error -/
theorem stake_baker_yes (sb : Nat) (L : Lay) (n : Nat) (s : SS) (k : Nat) (w : World) (h : StakesL sb L n s w) (hk : k < 3) (hi : s.is k = true) :
    Calls Tryz.prog 78 #[.pointer (some ⟨sb, 0, none⟩), .int .i64 k] w fun e w' => e = .returned (.tuple #[.pointer (some ⟨L.bb k, 0, none⟩), .nilIface]) ∧ w = w' := by
  have hc := h.cell hk
  rw [bptr_yes hi] at hc
  have HI := Lib.hid (stake_Is sb L n s (k : Int) w h)
  rw [hi] at HI
  clear h hi
  go_enter Tryz.func78, Tryz.ntmps78
  go_wp2_with (go_at_call 29; refine HI.out.mono ?_; rintro e w' ⟨rfl, rfl⟩)
  go_ret2
  exact ⟨rfl, rfl⟩
theorem stake_baker_no (A : Nat → Addr) (S : List Nat) (sb : Nat) (L : Lay) (n : Nat) (s : SS) (k : Int) (w : World) (h : StakesL sb L n s w) (hi : s.is k = false) (hE : Errs A S w) (h4 : 4 ∈ S) :
    Calls Tryz.prog 78 #[.pointer (some ⟨sb, 0, none⟩), .int .i64 k] w fun e w' => e = .returned (.tuple #[.pointer none, .iface 235 (.pointer (some (A 4)))]) ∧ Dr w w' := by
  have g4 : w.cell? ⟨3, 0, none⟩ = some (.iface 235 (.pointer (some (A 4)))) := hE.cell 4 h4
  have HI := Lib.hid (stake_Is sb L n s k w h)
  rw [hi] at HI
  clear h hi hE
  go_enter Tryz.func78, Tryz.ntmps78
  go_wp2_with (go_at_call 29; refine HI.out.mono ?_; rintro e w' ⟨rfl, rfl⟩)
  go_quiet (fail)
  go_wp2
  go_ret2
  exact ⟨rfl, _, rfl⟩

theorem SS.is_some {s : SS} {k : Nat} (h : s.is k = true) : ∃ q, s.pool k = some q ∧ s.get k none = some q := by
  obtain ⟨q, hq⟩ : ∃ q, s.pool k = some q := by
    unfold SS.is at h
    cases hp : s.pool k with
    | none => rw [hp] at h; cases h
    | some q => exact ⟨q, rfl⟩
  refine ⟨q, hq, ?_⟩
  have := hq; rw [SS.pool_nat] at this; exact this
theorem SS.is_none {s : SS} {k : Int} (h : s.is k = false) : s.pool k = none := by
  unfold SS.is at h
  cases hp : s.pool k with
  | none => rfl
  | some q => rw [hp] at h; cases h
/-- registered: one of three; else not -/
theorem reg_cases {s : SS} (h : s.Ok) (k : Int) : s.is k = false ∨ ∃ j : Nat, k = j ∧ j < 3 ∧ s.is j = true := by
  cases hi : s.is k with
  | false => exact .inl rfl
  | true =>
    rcases is_cases h k with ⟨_, h2⟩ | ⟨_, _, h2⟩ | ⟨j, rfl, hj⟩
    · rw [hi] at h2; cases h2
    · rw [hi] at h2; cases h2
    · exact .inr ⟨j, rfl, hj, hi⟩

theorem stake_Staked (sb : Nat) (L : Lay) (n : Nat) (s : SS) (k : Int) (w : World) (h : StakesL sb L n s w) :
    Calls Tryz.prog 34 #[.pointer (some ⟨sb, 0, none⟩), .int .i64 k] w fun e w' => e = .returned (.int .i64 (s.staked k)) ∧ w = w' := by
  have HI := Lib.hid (stake_Is sb L n s k w h)
  rcases reg_cases h.ok k with hi | ⟨j, rfl, hj, hi⟩
  · rw [hi] at HI
    have HV := Lib.hid (show s.staked k = 0 by unfold SS.staked; rw [SS.is_none hi]; rfl)
    clear h hi
    go_enter Tryz.func34, Tryz.ntmps34
    go_wp2_with (go_at_call 29; refine HI.out.mono ?_; rintro e w' ⟨rfl, rfl⟩)
    go_ret
    exact ⟨by rw [HV.out]; rfl, rfl⟩
  · rw [hi] at HI
    obtain ⟨q, hq, hg⟩ := SS.is_some hi
    have HV := Lib.hid (show s.staked j = q.total by unfold SS.staked; rw [hq]; rfl)
    have hc := h.cell hj
    rw [bptr_yes hi] at hc
    obtain ⟨c0, c1⟩ := h.baker hj hi
    have HP := Lib.hid (pool_Total _ _ _ _ w (h.poo j none q hj hg).1)
    clear h hi hq hg
    go_enter Tryz.func34, Tryz.ntmps34
    go_wp2_with (first
      | (go_at_call 29; refine HI.out.mono ?_; rintro e w' ⟨rfl, rfl⟩)
      | (go_at_call 80; refine HP.out.mono ?_; rintro e w' ⟨rfl, rfl⟩))
    go_ret
    exact ⟨by rw [HV.out]; rfl, rfl⟩

theorem stake_Value (A : Nat → Addr) (S : List Nat) (sb : Nat) (L : Lay) (n : Nat) (s : SS) (o k : Int) (w : World) (h : StakesL sb L n s w) (hE : Errs A S w) (h2 : 2 ∈ S) (ho : (Lit.int .i64 o).wf = true) :
    Calls Tryz.prog 60 #[.pointer (some ⟨sb, 0, none⟩), .int .i64 o, .int .i64 k] w fun e w' => e = .returned (.int .i64 (s.value o k)) ∧ Dr w w' := by
  have HI := Lib.hid (stake_Is sb L n s k w h)
  rcases reg_cases h.ok k with hi | ⟨j, rfl, hj, hi⟩
  · rw [hi] at HI
    have HV := Lib.hid (show s.value o k = 0 by unfold SS.value; rw [SS.is_none hi]; rfl)
    clear h hi hE
    go_enter Tryz.func60, Tryz.ntmps60
    go_wp2_with (go_at_call 29; refine HI.out.mono ?_; rintro e w' ⟨rfl, rfl⟩)
    go_ret
    exact ⟨by rw [HV.out]; rfl, Dr.refl _⟩
  · rw [hi] at HI
    obtain ⟨q, hq, hg⟩ := SS.is_some hi
    have HV := Lib.hid (show s.value o j = q.value o by unfold SS.value; rw [hq]; rfl)
    have hc := h.cell hj
    rw [bptr_yes hi] at hc
    obtain ⟨c0, c1⟩ := h.baker hj hi
    have HP := Lib.hid (pool_Value A S _ _ _ _ o w hE h2 (h.poo j none q hj hg).1 ho)
    clear h hi hq hg hE ho
    go_enter Tryz.func60, Tryz.ntmps60
    go_wp2_with (first
      | (go_at_call 29; refine HI.out.mono ?_; rintro e w' ⟨rfl, rfl⟩)
      | (go_at_call 94; refine HP.out.mono ?_; rintro e w' ⟨rfl, d, rfl⟩))
    go_ret
    exact ⟨by rw [HV.out]; rfl, d, rfl⟩
end Go.Proofs.YtajnfkmkombajabGreatDoor
