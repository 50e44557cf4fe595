/-
  Plain: what an act on a chain answers and leaves; sums are right behind it.
  The walk of an act on a chain alone.
  The walk of ChainSums.
  Plain: supply never comes to nought; how far it may grow by acts.
-/
import Derived.Test.YtajnfkmkombajacGreatDoorQCZ25
set_option linter.unusedVariables false
set_option linter.unusedSimpArgs false
set_option linter.unusedVariables false
namespace Go.Proofs.YtajnfkmkombajacGreatDoor
open Go.RowKit

/-- an act on a chain alone: what was minted by it, and what is left -/
noncomputable def CS.doOp (x : CS) (sd : Nat) (a : ActC) : Int × CS :=
  if (a.kind.toList == [112, 97, 121]) = true then (0, { x with p := (x.p.moveOp a.o a.t a.n).2 })
  else if (a.kind.toList == [115, 116, 97, 107, 101]) = true then (0, (x.stakeOp a.o a.b a.n).2)
  else if (a.kind.toList == [117, 110, 115, 116, 97, 107, 101]) = true then (0, { x with s := (x.s.leaveOp a.o a.b a.n x.cycle).2 })
  else if (a.kind.toList == [102, 114, 101, 101]) = true then (0, (x.freeOp a.o).2.2)
  else if (a.kind.toList == [97, 99, 99, 117, 115, 101]) = true then (0, { x with k := (x.k.accuse a.o a.e x.cycle).2 })
  else if (a.kind.toList == [98, 97, 107, 101]) = true then ((x.bakeOp sd a.b a.round).1, (x.bakeOp sd a.b a.round).2.2)
  else (x.btN sd a.round, x.btS sd a.round)

theorem CS.doOp_eq (x : CS) (sd : Nat) (a : ActC) : x.doOp sd a =
  if (a.kind.toList == [112, 97, 121]) = true then (0, { x with p := (x.p.moveOp a.o a.t a.n).2 })
  else if (a.kind.toList == [115, 116, 97, 107, 101]) = true then (0, (x.stakeOp a.o a.b a.n).2)
  else if (a.kind.toList == [117, 110, 115, 116, 97, 107, 101]) = true then (0, { x with s := (x.s.leaveOp a.o a.b a.n x.cycle).2 })
  else if (a.kind.toList == [102, 114, 101, 101]) = true then (0, (x.freeOp a.o).2.2)
  else if (a.kind.toList == [97, 99, 99, 117, 115, 101]) = true then (0, { x with k := (x.k.accuse a.o a.e x.cycle).2 })
  else if (a.kind.toList == [98, 97, 107, 101]) = true then ((x.bakeOp sd a.b a.round).1, (x.bakeOp sd a.b a.round).2.2)
  else (x.btN sd a.round, x.btS sd a.round) := rfl

theorem CS.step_len' (c : CS) : c.stepOp.s.W.length = c.s.W.length ∧ c.stepOp.k.L = c.k.L := by
  have hj : ∀ (l : List (Int × EV)) (c : CS), (l.foldl CS.judge c).s.W.length = c.s.W.length := by
    intro l
    induction l with
    | nil => intro c; rfl
    | cons x l ih => intro c; rw [List.foldl_cons, ih]; exact SS.slash_len _ _ _ _
  unfold CS.stepOp
  split
  · exact ⟨hj _ _, rfl⟩
  · exact ⟨rfl, rfl⟩
/-- what the law asks of an act -/
structure DoOk (x : CS) (n : Int) (y : CS) : Prop where
  inv : y.Inv
  n0 : 0 ≤ n
  le : y.p.supply ≤ x.p.supply + n
  eq : y.cycle = x.cycle → y.p.supply = x.p.supply + n
  w : y.s.W.length ≤ x.s.W.length + 1
  k : y.k.L.length ≤ x.k.L.length + 1
  cy : y.cycle ≤ x.cycle + 1
theorem CS.baked_ok {x : CS} (h : x.Inv) (b : Int) : DoOk x (x.reward b).1 (x.reward b).2.stepOp := by
  obtain ⟨i1, i2, i3, i4, i5⟩ := CS.reward_inv h b
  obtain ⟨s1, s2, s3, s4, s5⟩ := CS.step_inv i1
  obtain ⟨l1, l2⟩ := CS.step_len' (x.reward b).2
  obtain ⟨k1, k2, k3⟩ := CS.reward_keeps x b
  exact ⟨s1, i2, by rw [← i3]; exact s2, fun hc => by rw [← i3]; exact s3 (by rw [hc, i4]), by rw [l1, CS.reward_len]; omega, by rw [l2, k2]; omega, by rw [← i4]; exact s5⟩
theorem CS.same_ok {x : CS} (h : x.Inv) : DoOk x 0 x := ⟨h, Int.le_refl _, by omega, fun _ => by omega, by omega, by omega, by omega⟩
theorem CS.stake_keeps (x : CS) (o b n : Int) : (x.stakeOp o b n).2.s.W = x.s.W ∧ (x.stakeOp o b n).2.k = x.k ∧ (x.stakeOp o b n).2.cycle = x.cycle := by
  unfold CS.stakeOp; split
  · exact ⟨rfl, rfl, rfl⟩
  · split <;> exact ⟨SS.join_len _ _ _ _, rfl, rfl⟩
theorem CS.free_keeps (x : CS) (o : Int) : (x.freeOp o).2.2.s.W.length = x.s.W.length ∧ (x.freeOp o).2.2.k = x.k ∧ (x.freeOp o).2.2.cycle = x.cycle := by
  unfold CS.freeOp; split <;> exact ⟨SS.free_len _ _ _, rfl, rfl⟩
theorem KS.accuse_len' (k : KS) (o : Int) (e : EV) (cy : Int) : (k.accuse o e cy).2.L.length ≤ k.L.length + 1 := by
  unfold KS.accuse; split <;> simp
theorem CS.do_ok {x : CS} (h : x.Inv) (sd : Nat) (a : ActC) : DoOk x (x.doOp sd a).1 (x.doOp sd a).2 := by
  unfold CS.doOp
  split
  · obtain ⟨h1, h2⟩ := CS.pay_inv h a.o a.t a.n
    exact ⟨h1, Int.le_refl _, by show (x.p.moveOp _ _ _).2.supply ≤ _; rw [h2]; omega, fun _ => by show (x.p.moveOp _ _ _).2.supply = _; rw [h2]; omega, by simp, by simp, by show x.cycle ≤ _; omega⟩
  · split
    · obtain ⟨h1, h2⟩ := CS.stake_inv h a.o a.b a.n
      obtain ⟨k1, k2, k3⟩ := CS.stake_keeps x a.o a.b a.n
      exact ⟨h1, Int.le_refl _, by rw [h2]; omega, fun _ => by rw [h2]; omega, by rw [k1]; omega, by rw [k2]; omega, by rw [k3]; omega⟩
    · split
      · exact ⟨CS.unstake_inv h a.o a.b a.n, Int.le_refl _, by simp, fun _ => by simp, SS.leave_len _ _ _ _ _, by simp, by show x.cycle ≤ _; omega⟩
      · split
        · obtain ⟨h1, h2, -⟩ := CS.free_inv h a.o
          obtain ⟨k1, k2, k3⟩ := CS.free_keeps x a.o
          exact ⟨h1, Int.le_refl _, by rw [h2]; omega, fun _ => by rw [h2]; omega, by rw [k1]; omega, by rw [k2]; omega, by rw [k3]; omega⟩
        · split
          · exact ⟨CS.accuse_inv h a.o a.e, Int.le_refl _, by simp, fun _ => by simp, by simp, KS.accuse_len' _ _ _ _, by show x.cycle ≤ _; omega⟩
          · split
            · unfold CS.bakeOp
              split
              · exact CS.same_ok h
              · split
                · exact CS.same_ok h
                · exact CS.baked_ok h _
            · unfold CS.btN CS.btS
              split
              · exact CS.baked_ok h _
              · exact CS.same_ok h

theorem CS.reward_most {x : CS} (h : x.Inv) (b : Int) : (x.reward b).1 ≤ 1125899906842624 := by
  have hi := CS.issues_bd h
  unfold CS.reward
  split
  · simp only; omega
  · split
    · simp only; omega
    · split
      · simp only; omega
      · exact hi.2
theorem CS.do_most {x : CS} (h : x.Inv) (sd : Nat) (a : ActC) : (x.doOp sd a).1 ≤ 1125899906842624 := by
  have h0 : (0 : Int) ≤ 1125899906842624 := by decide
  unfold CS.doOp
  split
  · exact h0
  · split
    · exact h0
    · split
      · exact h0
      · split
        · exact h0
        · split
          · exact h0
          · split
            · unfold CS.bakeOp
              split
              · exact h0
              · split
                · exact h0
                · exact CS.reward_most h _
            · unfold CS.btN
              split
              · exact CS.reward_most h _
              · exact h0
/-- what the first k owners have -/
def hasK (p : PS) (k : Nat) : Int := (p.has.take k).sum
theorem hasK_step {p : PS} (h : p.Ok) {k : Nat} (hk : k < 6) : hasK p (k + 1) = hasK p k + p.at k := by
  have hl := h.six
  unfold hasK PS.at
  rw [List.take_add_one, List.getElem?_eq_getElem (by omega), List.sum_append]
  simp [hl, hk]
theorem hasK_all {p : PS} (h : p.Ok) : hasK p 6 = p.sum := by
  unfold hasK; rw [List.take_of_length_le (by rw [h.six]; decide)]; exact h.sumIs
theorem hasK_bd {p : PS} (h : p.Ok) : ∀ {k : Nat}, k ≤ 6 → 0 ≤ hasK p k ∧ hasK p k ≤ p.sum
  | 0, _ => ⟨by simp [hasK], by simpa [hasK] using h.sum_bd⟩
  | k + 1, hk => by
    have h1 := hasK_bd h (k := k) (by omega)
    rw [hasK_step h (by omega)]
    refine ⟨by have := (h.at_bd k).1; omega, ?_⟩
    have hx : ∀ m, k + 1 + m = 6 → hasK p (k + 1) ≤ hasK p 6 := by
      intro m
      have : ∀ m j, j + m = 6 → hasK p j ≤ hasK p 6 := by
        intro m
        induction m with
        | zero => intro j hj; rw [show j = 6 by omega]; exact Int.le_refl _
        | succ m ih =>
          intro j hj
          have := ih (j + 1) (by omega)
          rw [hasK_step h (by omega)] at this
          have := (h.at_bd j).1
          omega
      exact this m (k + 1)
    have := hx (5 - k) (by omega)
    rw [hasK_all h, hasK_step h (by omega)] at this
    exact this
end Go.Proofs.YtajnfkmkombajacGreatDoor
namespace Go.Proofs.YtajnfkmkombajacGreatDoor
open Go.RowKit Go.Maps

section
variable (A : Nat → Addr) (S : List Nat) (W : World) (F : Nat → Prop) (cb : Nat) (K : ChL) (n sd : Nat) (x : CS) (w : World)
theorem chain_Bonus (h : ChGo W F cb K n sd x w) : Calls Tryz.prog 39 #[.pointer (some ⟨cb, 0, none⟩)] w fun e w' => e = .returned (.int .i64 x.bonus) ∧ w = w' := by
  have c := h.c6
  clear h
  go_enter Tryz.func39, Tryz.ntmps39
  go_wp2
  go_ret
  exact ⟨rfl, rfl⟩

/-- behind the call's own box of the act -/
structure DoB (w : World) (a : ActC) (w1 : World) : Prop where
  b0 : w1.cell? ⟨w.heap.size, 0, none⟩ = some (.string a.kind)
  b1 : w1.cell? ⟨w.heap.size, 1, none⟩ = some (.int .i64 a.o)
  b2 : w1.cell? ⟨w.heap.size, 2, none⟩ = some (.int .i64 a.t)
  b3 : w1.cell? ⟨w.heap.size, 3, none⟩ = some (.int .i64 a.b)
  b4 : w1.cell? ⟨w.heap.size, 4, none⟩ = some (.int .i64 a.n)
  b5 : w1.cell? ⟨w.heap.size, 5, none⟩ = some (.int .i64 a.round)
  b6 : w1.cell? ⟨w.heap.size, 6, none⟩ = some (.int .i64 a.e.b)
  b7 : w1.cell? ⟨w.heap.size, 7, none⟩ = some (.int .i64 a.e.c)
  b8 : w1.cell? ⟨w.heap.size, 8, none⟩ = some (.int .i64 a.e.n)
theorem DoB.of (w : World) (a : ActC) (t : TypeId) : DoB w a (w.alloc (.cells #[.string a.kind, .int .i64 a.o, .int .i64 a.t, .int .i64 a.b, .int .i64 a.n, .int .i64 a.round, .int .i64 a.e.b, .int .i64 a.e.c, .int .i64 a.e.n] t)) := by
  have hn := heap_alloc_new w (.cells #[.string a.kind, .int .i64 a.o, .int .i64 a.t, .int .i64 a.b, .int .i64 a.n, .int .i64 a.round, .int .i64 a.e.b, .int .i64 a.e.c, .int .i64 a.e.n] t)
  refine ⟨?_, ?_, ?_, ?_, ?_, ?_, ?_, ?_, ?_⟩
  all_goals (unfold World.cell?; rw [hn]; simp)

set_option maxRecDepth 8000 in
set_option maxHeartbeats 2000000 in
theorem law_do (a : ActC) (h : ChGo W F cb K n sd x w) (hx : x.Inv) (hs : sd < 18446744073709551616) (hE : Errs A S W) (hFE : ∀ c ∈ S, ¬ F (gE c)) (hS : ∀ c ∈ [2, 3, 4, 5, 6, 7, 8, 9, 10], c ∈ S) (hW : x.s.W.length ≤ 8000) (hn : n ≤ 900000) (hk : x.k.L.length ≤ 900000) (ha : a.wf) (hcy : (Lit.int .i64 x.cycle).wf = true) :
    Calls Tryz.prog 33 #[.pointer (some ⟨cb, 0, none⟩), .agg a.enc.toArray] w fun e w' => e = .returned (.int .i64 (x.doOp sd a).1) ∧ ∃ K' n', n' ≤ n + 2 + x.s.W.length ∧ ChGo W F cb K' n' sd (x.doOp sd a).2 w' := by
  have m2 := hS 2 (by decide); have m3 := hS 3 (by decide); have m4 := hS 4 (by decide); have m5 := hS 5 (by decide); have m6 := hS 6 (by decide); have m7 := hS 7 (by decide); have m8 := hS 8 (by decide); have m9 := hS 9 (by decide); have m10 := hS 10 (by decide)
  have HD := Lib.hid (CS.doOp_eq x sd a)
  have HX := Lib.hid hx
  have HEE := Lib.hid (And.intro hE hFE)
  have hbx := DoB.of w a 48
  have hgo := h.below ((Below.refl _ _).alloc (Nat.le_refl _) (.cells #[.string a.kind, .int .i64 a.o, .int .i64 a.t, .int .i64 a.b, .int .i64 a.n, .int .i64 a.round, .int .i64 a.e.b, .int .i64 a.e.c, .int .i64 a.e.n] 48))
  have hew := ha.2.2.2.2.2.2
  clear h hx hE hFE ha hS
  obtain ⟨s, o, t, b, N, r, e⟩ := a
  unfold ActC.enc
  simp only at hbx hgo HD hew ⊢
  obtain ⟨wb, hwb⟩ : ∃ wb, w.alloc (.cells #[.string s, .int .i64 o, .int .i64 t, .int .i64 b, .int .i64 N, .int .i64 r, .int .i64 e.b, .int .i64 e.c, .int .i64 e.n] 48) = wb := ⟨_, rfl⟩
  rw [hwb] at hbx hgo
  have H0 := Lib.hid hgo; clear hgo
  obtain ⟨c0, c1, c2, c3, c4, c5, c6, c7, c8⟩ := hbx
  simp only at c0 c1 c2 c3 c4 c5 c6 c7 c8
  generalize x.doOp sd ⟨s, o, t, b, N, r, e⟩ = res at *
  go_enter Tryz.func33, Tryz.ntmps33
  by_cases m20 : (s.toList == [112, 97, 121]) = true
  · rw [if_pos m20] at HD
    go_wp2_with fail
    refine (chain_Pay A S W F cb K n sd x _ o t N H0.out HEE.out.1 HEE.out.2 m2 m6).mono ?_
    rintro y w2 ⟨rfl, g⟩
    have H1 := Lib.hid g; clear g
    go_wp2_with fail
    go_ret
    exact ⟨by rw [HD.out]; rfl, by rw [HD.out]; exact ⟨K, n, by omega, H1.out⟩⟩
  · rw [if_neg m20] at HD
    have n20 : (s.toList == [112, 97, 121]) = false := by simpa using m20
    clear m20
    by_cases m21 : (s.toList == [115, 116, 97, 107, 101]) = true
    · rw [if_pos m21] at HD
      go_wp2_with fail
      refine (chain_Stake A S W F cb K n sd x _ o b N H0.out HEE.out.1 HEE.out.2 m2 m4 m6 m7 m8 (by unfold maxLen; omega)).mono ?_
      rintro y w2 ⟨rfl, K2, g⟩
      have H1 := Lib.hid g; clear g
      go_wp2_with fail
      go_ret
      exact ⟨by rw [HD.out]; rfl, by rw [HD.out]; exact ⟨K2, n + 1, by omega, H1.out⟩⟩
    · rw [if_neg m21] at HD
      have n21 : (s.toList == [115, 116, 97, 107, 101]) = false := by simpa using m21
      clear m21
      by_cases m22 : (s.toList == [117, 110, 115, 116, 97, 107, 101]) = true
      · rw [if_pos m22] at HD
        go_wp2_with fail
        refine (chain_Unstake A S W F cb K n sd x _ o b N H0.out HEE.out.1 HEE.out.2 m2 m4 m6 m7 m8 (by unfold maxLen; omega) hcy).mono ?_
        rintro y w2 ⟨rfl, K2, g⟩
        have H1 := Lib.hid g; clear g
        go_wp2_with fail
        go_ret
        exact ⟨by rw [HD.out]; rfl, by rw [HD.out]; exact ⟨K2, n + 2, by omega, H1.out⟩⟩
      · rw [if_neg m22] at HD
        have n22 : (s.toList == [117, 110, 115, 116, 97, 107, 101]) = false := by simpa using m22
        clear m22
        by_cases m23 : (s.toList == [102, 114, 101, 101]) = true
        · rw [if_pos m23] at HD
          go_wp2_with fail
          refine (chain_Free A S W F cb K n sd x _ o H0.out HX.out HEE.out.1 HEE.out.2 m2 m4 m6 hW (by unfold maxLen; omega)).mono ?_
          rintro y w2 ⟨rfl, K2, g⟩
          have H1 := Lib.hid g; clear g
          go_wp2_with fail
          go_ret
          exact ⟨by rw [HD.out]; rfl, by rw [HD.out]; exact ⟨K2, _, by omega, H1.out⟩⟩
        · rw [if_neg m23] at HD
          have n23 : (s.toList == [102, 114, 101, 101]) = false := by simpa using m23
          clear m23
          by_cases m24 : (s.toList == [97, 99, 99, 117, 115, 101]) = true
          · rw [if_pos m24] at HD
            go_wp2_with fail
            refine (chain_Accuse A S W F cb K n sd x _ o e H0.out HEE.out.1 HEE.out.2 m2 m5 m10 hew (by omega) (by omega)).mono ?_
            rintro y w2 ⟨rfl, K2, g⟩
            have H1 := Lib.hid g; clear g
            go_wp2_with fail
            go_ret
            exact ⟨by rw [HD.out]; rfl, by rw [HD.out]; exact ⟨K2, n + 1, by omega, H1.out⟩⟩
          · rw [if_neg m24] at HD
            have n24 : (s.toList == [97, 99, 99, 117, 115, 101]) = false := by simpa using m24
            clear m24
            by_cases m25 : (s.toList == [98, 97, 107, 101]) = true
            · rw [if_pos m25] at HD
              go_wp2_with fail
              refine (chain_Bake A S W F cb K n sd x _ b r H0.out HX.out hs HEE.out.1 HEE.out.2 m2 m3 m4 m6 m9 hW (by omega) (by omega)).mono ?_
              rintro y w2 ⟨rfl, K2, g⟩
              have H1 := Lib.hid g; clear g
              go_wp2_with fail
              go_ret
              exact ⟨by rw [HD.out]; rfl, by rw [HD.out]; exact ⟨K2, n + 1, by omega, H1.out⟩⟩
            · rw [if_neg m25] at HD
              have n25 : (s.toList == [98, 97, 107, 101]) = false := by simpa using m25
              clear m25
              go_wp2_with fail
              refine (law_bakeTurn A S W F cb K n sd x _ r H0.out HX.out hs HEE.out.1 HEE.out.2 m2 m3 m4 m6 m9 hW (by omega) (by omega)).mono ?_
              rintro y w2 ⟨rfl, K2, g⟩
              have H1 := Lib.hid g; clear g
              go_wp2_with fail
              go_ret
              exact ⟨by rw [HD.out]; rfl, by rw [HD.out]; exact ⟨K2, n + 1, by omega, H1.out⟩⟩
end
end Go.Proofs.YtajnfkmkombajacGreatDoor
namespace Go.Proofs.YtajnfkmkombajacGreatDoor
open Go.RowKit Go.Maps

set_option maxRecDepth 8000 in
set_option maxHeartbeats 2000000 in
theorem csums_walk (A : Nat → Addr) (sd : Nat) (hs : sd < 18446744073709551616) (a0 : Option Addr) (len0 cap0 : Nat) (l0 : List ActC) (w : World) (S : List Nat) (hS : Errs A S w) (mS : ∀ c ∈ [2, 3, 4, 5, 6, 7, 8, 9, 10], c ∈ S) (R0 : RdR ActC.enc 9 w a0 len0 cap0 l0) (hwf : ∀ x ∈ l0, x.wf) (hl : len0 ≤ 120) :
    Calls Tryz.prog 6 #[.int .u64 sd, .slice a0 len0 cap0] w fun e w' => e = .returned (.bool true) ∧ Below w.heap.size w w' := by
  have HS := Lib.hid hS; clear hS
  have HR0 := Lib.hid R0; clear R0
  have HWF := Lib.hid hwf; clear hwf
  have m2 := mS 2 (by decide)
  have m4 := mS 4 (by decide)
  have m5 := mS 5 (by decide)
  have m6 := mS 6 (by decide)
  have m7 := mS 7 (by decide)
  have m8 := mS 8 (by decide)
  have HM := Lib.hid mS
  have d1 : decide ((120 : Int) < (len0 : Int)) = false := by simp; omega
  go_enter Tryz.func6, Tryz.ntmps6
  go_wp2_with fail
  refine (law_begun A S _ HS.out (fun c hc => mS c ((by decide : ∀ c ∈ [2, 3, 4, 5, 6, 7, 8, 9], c ∈ [2, 3, 4, 5, 6, 7, 8, 9, 10]) c hc))).mono ?_
  rintro e w0 ⟨rfl, hb0⟩
  have HB0 := Lib.hid hb0; clear hb0
  have HS0 := Lib.hid (HS.out.below HB0.out)
  go_wp2_with fail
  refine (chain_New A S sd _ HS0.out m2 m4 m5 m6 m7 m8).mono ?_
  rintro e w1 ⟨cb, K, rfl, g1⟩
  have H1 := Lib.hid g1.cn; clear g1
  go_wp2_with fail
  go_loopg [7] len0 (fun g i wr => ∃ (t n : Nat) (K : ChL) (x : CS), CN w0 cb K n sd x wr ∧ x.Inv ∧ g + t = len0 ∧ i = .int .i64 t ∧ (x.s.W.length ≤ t ∧ x.k.L.length ≤ t ∧ n ≤ 3 + 130 * t ∧ x.cycle ≤ t))
  case atStart => exact ⟨0, 3, K, CS.new, H1.out, CS.new_inv, rfl, rfl, by decide, by decide, by decide, by decide⟩
  case round =>
    clear H1
    obtain ⟨t, n, K, x, hc, hx, hg, rfl, hbd⟩ := hrel
    have H := Lib.hid hc; have HX := Lib.hid hx; have HG := Lib.hid hg; have HBD := Lib.hid hbd; clear hc hx hg hbd
    by_cases hlt : t < len0
    · obtain ⟨a, ha⟩ : ∃ a, l0[t]? = some a := ⟨_, List.getElem?_eq_getElem (by rw [HR0.out.size]; exact hlt)⟩
      obtain ⟨bb, off, rfl, hbl, hcs⟩ := (HR0.out.below (btrans HB0.out H.out.below)).cells t a ha
      have haw := HWF.out a (List.mem_of_getElem? ha)
      have c0 := hcs 0 (by decide)
      have c1 := hcs 1 (by decide)
      have c2 := hcs 2 (by decide)
      have c3 := hcs 3 (by decide)
      have c4 := hcs 4 (by decide)
      have c5 := hcs 5 (by decide)
      have c6 := hcs 6 (by decide)
      have c7 := hcs 7 (by decide)
      have c8 := hcs 8 (by decide)
      simp only [ActC.enc, List.getElem?_cons_zero, List.getElem?_cons_succ, Nat.add_zero] at c0 c1 c2 c3 c4 c5 c6 c7 c8
      have HAW := Lib.hid haw; clear ha haw hcs
      obtain ⟨hw1, hw2, hw3, hw4⟩ := HBD.out
      have hcy0 := HX.out.cy
      have hcyw : (Lit.int .i64 x.cycle).wf = true := WalkArith.wf_i64 (by omega)
      have HDO := Lib.hid (fun wx (hg : ChGo wr (K.foot cb) cb K n sd x wx) => law_do A S wr (K.foot cb) cb K n sd x wx a hg HX.out hs (H.out.errs HS0.out) (H.out.fe HS0.out) HM.out (by omega) (by omega) (by omega) HAW.out hcyw)
      have HOK := Lib.hid (CS.do_ok HX.out sd a)
      have hN := CS.do_most HX.out sd a
      have e0 := H.out.go.c0
      have hcyb := HX.out.cy
      clear hw1 hw2 hw3 hcy0 hcyw
      generalize (x.doOp sd a).1 = N at *
      generalize (x.doOp sd a).2 = y at *
      have y0 := HOK.out.n0
      have y1 := HOK.out.le
      have y2 := HOK.out.eq
      have p0 := HX.out.p.most
      have p1 := HX.out.p.sum_bd
      have p2 := HX.out.p.le
      have p5 := HOK.out.inv.p.most
      have HB2 := Lib.hid (show (y.s.W.length ≤ t + 1 ∧ y.k.L.length ≤ t + 1 ∧ y.cycle ≤ t + 1 ∧ x.s.W.length ≤ t ∧ n ≤ 3 + 130 * t) from ⟨by have := HOK.out.w; have := HBD.out.1; omega, by have := HOK.out.k; have := HBD.out.2.1; omega, by have := HOK.out.cy; have := HBD.out.2.2.2; omega, HBD.out.1, HBD.out.2.2.1⟩)
      have HTOT := Lib.hid (show 0 ≤ y.s.total ∧ (∀ k, k ≤ 6 → 0 ≤ hasK y.p k ∧ y.s.total + hasK y.p k ≤ 1125899906842624) ∧ y.s.total + hasK y.p 6 = y.p.supply from by
        have q1 := HOK.out.inv.bal; have q2 := HOK.out.inv.s.total_bd.1; have q3 := HOK.out.inv.p.most
        refine ⟨q2, fun k hk => ?_, by rw [hasK_all HOK.out.inv.p]; omega⟩
        have q4 := hasK_bd HOK.out.inv.p hk
        exact ⟨q4.1, by omega⟩)
      have HHS := Lib.hid (fun k (hk : k < 6) => And.intro (hasK_step HOK.out.inv.p hk) (HOK.out.inv.p.at_bd k))
      clear hw4
      generalize hsx : x.p.supply = sx at *
      go_wp2_with fail
      refine (purse_Supply K.pb x.p _ H.out.ch.purse).mono ?_
      rintro e w2 ⟨rfl, rfl⟩
      rw [hsx]
      go_wp2_with fail
      refine (chain_Cycle H.out.go).mono ?_
      rintro e w2 ⟨rfl, rfl⟩
      go_wp2_with fail
      refine (HDO.out _ H.out.go).mono ?_
      rintro e w2 ⟨rfl, K2, n2, hn2, g2⟩
      have H2 := Lib.hid (H.out.of g2); have HN2 := Lib.hid hn2; clear g2 hn2 e0 c0 c1 c2 c3 c4 c5 c6 c7 c8
      have e0 := H2.out.go.c0
      generalize hsy : y.p.supply = sy at *
      have z1 : decide (N < 0) = false := by simp; omega
      have z2 : decide (sx + N < sy) = false := by simp; omega
      go_wp2_with fail
      refine (purse_Supply K2.pb y.p _ H2.out.ch.purse).mono ?_
      rintro e w3 ⟨rfl, rfl⟩
      rw [hsy]
      go_wp2_with fail
      refine (chain_Cycle H2.out.go).mono ?_
      rintro e w3 ⟨rfl, rfl⟩
      have HZ := Lib.hid HOK.out.eq
      have hst := H2.out.go.ch.st
      have htot := st_Total (sb := K2.sb) hst (by have := HB2.out.1; omega)
      have HT := Lib.hid htot; clear hst htot
      have hzz : y.cycle = x.cycle ∨ y.cycle ≠ x.cycle := by omega
      have HSUM := Lib.hid (show sy = y.p.supply from hsy.symm)
      have ht0 := HTOT.out.2.1 0 (by decide)
      clear y1 y2 p5 hcyb
      rcases hzz with hzz | hzz
      · have z3 : (y.cycle == x.cycle) = true := by rw [hzz]; exact beq_self_eq_true _
        have z4 : (sy != sx + N) = false := by rw [HSUM.out, HZ.out hzz, hsx]; exact bne_self_eq_false _
        have HZZ := Lib.hid hzz; clear hzz
        go_wp2_with fail
        refine (purse_Supply K2.pb y.p _ H2.out.ch.purse).mono ?_
        rintro e w3 ⟨rfl, rfl⟩
        rw [← HSUM.out]
        go_wp2_with fail
        refine (chain_Stakes H2.out.go).mono ?_
        rintro e w3 ⟨rfl, rfl⟩
        go_wp2_with fail
        refine HT.out.mono ?_
        rintro e w3 ⟨rfl, b3⟩
        have H3 := Lib.hid (H2.out.next b3); clear b3
        go_wp2_with fail
        go_loopg [11, 12] 6 (fun g sm i wr3 => ∃ k : Nat, wr3 = w3 ∧ g + k = 6 ∧ i = .int .i64 k ∧ sm = .int .i64 (y.s.total + hasK y.p k))
        case atStart => exact ⟨0, rfl, rfl, rfl, by rw [show hasK y.p 0 = 0 from rfl, Int.add_zero]⟩
        case round =>
          obtain ⟨k, rfl, hg, rfl, rfl⟩ := hrel
          by_cases hk : k < 6
          · obtain ⟨s1, s2⟩ := HHS.out k hk
            have s3 := (HTOT.out.2.1 (k + 1) (by omega)).2
            have s4 := (HTOT.out.2.1 k (by omega)).1
            have s5 := HTOT.out.1
            have hown : ownB (k : Int) = true := ownB_iff.2 (by omega)
            have HPH := Lib.hid (purse_Has K2.pb y.p k _ H3.out.go.ch.purse)
            rw [if_pos hown] at HPH
            rw [s1] at s3
            have HG3 := Lib.hid hg; clear hg
            have HS1 := Lib.hid s1; clear s1
            have f0 := H3.out.go.c0
            generalize hasK y.p k = hk0 at *
            generalize y.p.at k = hv at *
            have s6 := s2.1; have s7 := s2.2
            clear s2 hown
            have z5 : decide (hv < 0) = false := by simp; omega
            go_wp2_with fail
            refine HPH.out.mono ?_
            rintro e w4 ⟨rfl, rfl⟩
            go_wp2_with fail
            refine HPH.out.mono ?_
            rintro e w4 ⟨rfl, rfl⟩
            go_wp2_with fail
            have hg := HG3.out
            go_roundg (6 - (k + 1))
            case measure => omega
            case rel => exact ⟨k + 1, rfl, by omega, by go_num, by rw [HS1.out]; go_num⟩
          · have hk6 : k = 6 := by omega
            subst hk6
            rw [HTOT.out.2.2]
            have f0 := H3.out.go.c0
            have HPS := Lib.hid (purse_Supply K2.pb y.p _ H3.out.go.ch.purse)
            rw [hsy] at HPS
            have tt : (sy != sy) = false := bne_self_eq_false _
            go_wp2_with fail
            refine HPS.out.mono ?_
            rintro e w4 ⟨rfl, rfl⟩
            have hG := HG.out
            go_wp2_with fail
            go_roundg (len0 - (t + 1))
            case measure => omega
            case rel => exact ⟨t + 1, n2, K2, y, H3.out, HOK.out.inv, by omega, by go_num, HB2.out.1, HB2.out.2.1, by have := HN2.out; have := HB2.out.2.2.2; omega, by have := HB2.out.2.2.1; omega⟩
      · have z3 : (y.cycle == x.cycle) = false := by simp [hzz]
        have HZZ := Lib.hid hzz; clear hzz
        go_wp2_with fail
        refine (chain_Stakes H2.out.go).mono ?_
        rintro e w3 ⟨rfl, rfl⟩
        go_wp2_with fail
        refine HT.out.mono ?_
        rintro e w3 ⟨rfl, b3⟩
        have H3 := Lib.hid (H2.out.next b3); clear b3
        go_wp2_with fail
        go_loopg [11, 12] 6 (fun g sm i wr3 => ∃ k : Nat, wr3 = w3 ∧ g + k = 6 ∧ i = .int .i64 k ∧ sm = .int .i64 (y.s.total + hasK y.p k))
        case atStart => exact ⟨0, rfl, rfl, rfl, by rw [show hasK y.p 0 = 0 from rfl, Int.add_zero]⟩
        case round =>
          obtain ⟨k, rfl, hg, rfl, rfl⟩ := hrel
          by_cases hk : k < 6
          · obtain ⟨s1, s2⟩ := HHS.out k hk
            have s3 := (HTOT.out.2.1 (k + 1) (by omega)).2
            have s4 := (HTOT.out.2.1 k (by omega)).1
            have s5 := HTOT.out.1
            have hown : ownB (k : Int) = true := ownB_iff.2 (by omega)
            have HPH := Lib.hid (purse_Has K2.pb y.p k _ H3.out.go.ch.purse)
            rw [if_pos hown] at HPH
            rw [s1] at s3
            have HG3 := Lib.hid hg; clear hg
            have HS1 := Lib.hid s1; clear s1
            have f0 := H3.out.go.c0
            generalize hasK y.p k = hk0 at *
            generalize y.p.at k = hv at *
            have s6 := s2.1; have s7 := s2.2
            clear s2 hown
            have z5 : decide (hv < 0) = false := by simp; omega
            go_wp2_with fail
            refine HPH.out.mono ?_
            rintro e w4 ⟨rfl, rfl⟩
            go_wp2_with fail
            refine HPH.out.mono ?_
            rintro e w4 ⟨rfl, rfl⟩
            go_wp2_with fail
            have hg := HG3.out
            go_roundg (6 - (k + 1))
            case measure => omega
            case rel => exact ⟨k + 1, rfl, by omega, by go_num, by rw [HS1.out]; go_num⟩
          · have hk6 : k = 6 := by omega
            subst hk6
            rw [HTOT.out.2.2]
            have f0 := H3.out.go.c0
            have HPS := Lib.hid (purse_Supply K2.pb y.p _ H3.out.go.ch.purse)
            rw [hsy] at HPS
            have tt : (sy != sy) = false := bne_self_eq_false _
            go_wp2_with fail
            refine HPS.out.mono ?_
            rintro e w4 ⟨rfl, rfl⟩
            have hG := HG.out
            go_wp2_with fail
            go_roundg (len0 - (t + 1))
            case measure => omega
            case rel => exact ⟨t + 1, n2, K2, y, H3.out, HOK.out.inv, by omega, by go_num, HB2.out.1, HB2.out.2.1, by have := HN2.out; have := HB2.out.2.2.2; omega, by have := HB2.out.2.2.1; omega⟩
    · go_wp2_with fail
      go_ret
      exact ⟨rfl, btrans HB0.out H.out.below⟩

set_option maxRecDepth 8000 in
theorem csums_all (A : Nat → Addr) (sd : Nat) (hs : sd < 18446744073709551616) (a0 : Option Addr) (len0 cap0 : Nat) (l0 : List ActC) (w : World) (S : List Nat) (hS : Errs A S w) (mS : ∀ c ∈ [2, 3, 4, 5, 6, 7, 8, 9, 10], c ∈ S) (R0 : RdR ActC.enc 9 w a0 len0 cap0 l0) (hwf : ∀ x ∈ l0, x.wf) :
    Calls Tryz.prog 6 #[.int .u64 sd, .slice a0 len0 cap0] w fun e w' => e = .returned (.bool true) ∧ Below w.heap.size w w' := by
  by_cases hl : len0 ≤ 120
  · exact csums_walk A sd hs a0 len0 cap0 l0 w S hS mS R0 hwf hl
  · have HS := Lib.hid hS
    have d1 : decide ((120 : Int) < (len0 : Int)) = true := by simp; omega
    clear hS R0 hwf
    go_enter Tryz.func6, Tryz.ntmps6
    go_wp2_with fail
    refine (law_begun A S _ HS.out (fun c hc => mS c ((by decide : ∀ c ∈ [2, 3, 4, 5, 6, 7, 8, 9], c ∈ [2, 3, 4, 5, 6, 7, 8, 9, 10]) c hc))).mono ?_
    rintro e w0 ⟨rfl, hb0⟩
    have HB0 := Lib.hid hb0; clear hb0
    go_wp2_with fail
    go_ret
    exact ⟨rfl, HB0.out⟩
end Go.Proofs.YtajnfkmkombajacGreatDoor
namespace Go.Proofs.YtajnfkmkombajacGreatDoor
open Go.RowKit

theorem QS.slash_half {q : QS} (h : q.Ok) {p : Int} (hp : p ≤ 50) : 2 * (q.slashOp p).1 ≤ q.total := by
  have t0 := h.t0
  unfold QS.slashOp
  split
  · simp only; omega
  · next hn =>
    have h1 : q.total * p ≤ q.total * 50 := Int.mul_le_mul_of_nonneg_left hp t0
    simp only; omega
theorem WP.loses_half {x : WP} (h : x.q.Ok) {k f p : Int} (hp : p ≤ 50) : 2 * x.loses k f p ≤ x.q.total := by
  unfold WP.loses
  split
  · exact QS.slash_half h hp
  · have := h.t0; omega
theorem loses_half {k f p : Int} (hp : p ≤ 50) : ∀ l : List WP, (∀ x ∈ l, x.q.Ok) → 2 * (l.map (·.loses k f p)).sum ≤ (l.map (·.q.total)).sum
  | [], _ => by simp
  | x :: l, h => by
    have h1 := WP.loses_half (h x (by simp)) (k := k) (f := f) hp
    have h2 := loses_half (k := k) (f := f) hp l (fun y hy => h y (by simp [hy]))
    simp only [List.map_cons, List.sum_cons]; omega
theorem SS.slash_half {s : SS} (h : s.Ok) (k f : Int) {p : Int} (hp : p ≤ 50) : 2 * (s.slashOp k f p).1 ≤ s.total := by
  have t0 := h.total_bd.1
  have hw := loses_half (k := k) (f := f) hp s.W (fun x hx => (h.waits x hx).1)
  unfold SS.slashOp
  cases hk : s.pool k with
  | none => simp only; omega
  | some q =>
    have hq := QS.slash_half (h.poolOk hk) hp
    obtain ⟨k0, k3⟩ := h.lt hk
    obtain ⟨j, rfl⟩ := Int.eq_ofNat_of_zero_le k0
    have hP : q.total ≤ (s.P.map optT).sum := by
      have hz : ∀ o, o ∈ s.P → 0 ≤ optT o := fun o ho => by
        cases o with
        | none => simp [optT]
        | some q => exact (h.pools q ho).t0
      have h3 := h.three
      rw [SS.pool_nat] at hk
      match hPP : s.P, h3 with
      | [a, b, c], _ =>
        rw [hPP] at hk
        have h0 := hz a (by rw [hPP]; simp); have h1 := hz b (by rw [hPP]; simp); have h2 := hz c (by rw [hPP]; simp)
        simp only [List.map_cons, List.map_nil, List.sum_cons, List.sum_nil]
        match j, (by omega : j < 3) with
        | 0, _ => have : a = some q := by simpa using hk
                  subst this; show q.total ≤ optT (some q) + _; have : optT (some q) = q.total := rfl; omega
        | 1, _ => have : b = some q := by simpa using hk
                  subst this; have : optT (some q) = q.total := rfl; omega
        | 2, _ => have : c = some q := by simpa using hk
                  subst this; have : optT (some q) = q.total := rfl; omega
    simp only
    split
    · simp only; omega
    · unfold SS.total
      simp only; omega
theorem pct_half (n : Int) : pct n ≤ 50 := by unfold pct; split <;> omega
theorem CS.judge_pos {c : CS} (h : c.Inv) {x : Int × EV} (ho : ownB x.1 = true) (hp : 1 ≤ c.p.supply) : 1 ≤ (c.judge x).p.supply := by
  have hb := h.bal
  obtain ⟨l1, l2, -⟩ := SS.slash_total h.s x.2.b x.2.c (pct x.2.n)
  have hh := SS.slash_half h.s x.2.b x.2.c (pct_half x.2.n)
  have ss := SS.slashOp_ok h.s x.2.b x.2.c (pct x.2.n)
  have t0 := ss.total_bd.1
  have hm := h.p.most
  have s0 := h.p.sum_bd
  unfold CS.judge
  generalize c.s.slashOp x.2.b x.2.c (pct x.2.n) = r at *
  obtain ⟨lost, code, st⟩ := r
  simp only at *
  have hl : lookC x.1 (lost / 7) = 0 := lookC_zero.2 ⟨ho, by omega, by omega⟩
  have ei := PS.in_sum (p := c.p) x.1 (lost / 7) hl (by omega)
  rw [ei]
  have eb : (c.p.change x.1 (lost / 7)).burnOp (lost - lost / 7) = (0, (c.p.change x.1 (lost / 7)).grow (-(lost - lost / 7))) := by
    unfold PS.burnOp; rw [if_neg (by rw [amtB_false]; omega), if_neg (by simp only [PS.change]; omega)]
  rw [eb]
  simp only [PS.grow, PS.change]; omega
theorem CS.judges_pos : ∀ (l : List (Int × EV)) {c : CS}, c.Inv → (∀ x ∈ l, ownB x.1 = true) → 1 ≤ c.p.supply → 1 ≤ (l.foldl CS.judge c).p.supply
  | [], _, _, _, hp => hp
  | x :: l, c, h, hx, hp => CS.judges_pos l (CS.judge_inv h (hx x (by simp))).1 (fun y hy => hx y (by simp [hy])) (CS.judge_pos h (hx x (by simp)) hp)
theorem CS.step_pos {c : CS} (h : c.Inv) (hp : 1 ≤ c.p.supply) : 1 ≤ c.stepOp.p.supply := by
  have hl : ({ c with level := c.level + 1 } : CS).Inv := ⟨h.p, h.s, h.reg, h.bal, h.known, h.done, h.b0, h.b1, h.three, h.pic, h.cy, by have := h.lv; show 0 ≤ c.level + 1; omega⟩
  unfold CS.stepOp
  split
  · show 1 ≤ (CS.judged _).p.supply
    exact CS.judges_pos _ hl (fun x hx => (h.known x (List.mem_of_mem_drop hx)).1) hp
  · exact hp
theorem CS.baked_pos {x : CS} (h : x.Inv) (b : Int) (hp : 1 ≤ x.p.supply) : 1 ≤ (x.reward b).2.stepOp.p.supply := by
  obtain ⟨i1, i2, i3, i4, i5⟩ := CS.reward_inv h b
  exact CS.step_pos i1 (by omega)
theorem CS.do_pos {x : CS} (h : x.Inv) (sd : Nat) (a : ActC) (hp : 1 ≤ x.p.supply) : 1 ≤ (x.doOp sd a).2.p.supply := by
  unfold CS.doOp
  split
  · show 1 ≤ (x.p.moveOp _ _ _).2.supply; rw [(CS.pay_inv h a.o a.t a.n).2]; exact hp
  · split
    · rw [(CS.stake_inv h a.o a.b a.n).2]; exact hp
    · split
      · exact hp
      · split
        · rw [(CS.free_inv h a.o).2.1]; exact hp
        · split
          · exact hp
          · split
            · unfold CS.bakeOp
              split
              · exact hp
              · split
                · exact hp
                · exact CS.baked_pos h _ hp
            · unfold CS.btS
              split
              · exact CS.baked_pos h _ hp
              · exact hp
theorem CS.reward_issues {x : CS} (h : x.Inv) (b : Int) : (x.reward b).1 ≤ x.issues := by
  have := CS.issues_bd h
  unfold CS.reward
  split
  · exact this.1
  · split
    · exact this.1
    · split
      · exact this.1
      · exact Int.le_refl _
theorem CS.do_issues {x : CS} (h : x.Inv) (sd : Nat) (a : ActC) : (x.doOp sd a).1 ≤ x.issues := by
  have h0 := (CS.issues_bd h).1
  unfold CS.doOp
  split
  · exact h0
  · split
    · exact h0
    · split
      · exact h0
      · split
        · exact h0
        · split
          · exact h0
          · split
            · unfold CS.bakeOp
              split
              · exact h0
              · split
                · exact h0
                · exact CS.reward_issues h _
            · unfold CS.btN
              split
              · exact CS.reward_issues h _
              · exact h0
/-- what the law of rewards asks of a chain that has gone through t acts -/
structure RewQ (t : Nat) (x : CS) : Prop where
  inv : x.Inv
  pos : 1 ≤ x.p.supply
  top : x.p.supply ≤ cap t
  w : x.s.W.length ≤ t
  k : x.k.L.length ≤ t
  cy : x.cycle ≤ t
theorem RewQ.new : RewQ 0 CS.new := ⟨CS.new_inv, by decide, by decide, by decide, by decide, by decide⟩
theorem RewQ.next {t : Nat} {x y : CS} {N : Int} (h : RewQ t x) (ht : t ≤ 400) (o : DoOk x N y) (hp : 1 ≤ y.p.supply) (hN : N ≤ x.issues) : RewQ (t + 1) y := by
  obtain ⟨f1, f2⟩ := CS.issues_fit h.inv ht h.top
  have := o.le; have := o.w; have := o.k; have := o.cy; have := h.w; have := h.k; have := h.cy
  exact ⟨o.inv, hp, by omega, by omega, by omega, by omega⟩
theorem RewQ.same {t : Nat} {x : CS} (h : RewQ t x) : RewQ (t + 1) x := by
  have hc : cap t ≤ cap (t + 1) := cap_le (Nat.le_succ t)
  have := h.top; have := h.w; have := h.k; have := h.cy
  exact ⟨h.inv, h.pos, by omega, by omega, by omega, by omega⟩
theorem RewQ.codes {t : Nat} {x : CS} (h : RewQ t x) : ratioC x.stakedAll x.p.supply = 0 ∧ rateC x.ratio x.bonus = 0 ∧ rewardC x.p.supply (rateN x.ratio x.bonus) = 0 := by
  have hb := h.inv.bal; have hm := h.inv.p.most; have s0 := h.inv.p.sum_bd
  obtain ⟨q0, q1, q2, q3⟩ := SS.staked_bd h.inv.s
  have hp := h.pos
  obtain ⟨r1, r0⟩ := rate_most (r := x.ratio) (b := x.bonus)
  obtain ⟨a0, a1⟩ := CS.ratio_bd h.inv
  refine ⟨if_pos ?_, if_pos ⟨a0, a1, h.inv.b0, h.inv.b1⟩, if_pos ⟨⟨by omega, hm⟩, r0, by omega⟩⟩
  unfold ratioOk CS.stakedAll
  omega
end Go.Proofs.YtajnfkmkombajacGreatDoor
