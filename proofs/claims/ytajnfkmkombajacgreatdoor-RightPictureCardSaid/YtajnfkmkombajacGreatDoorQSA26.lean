/-
  Contracts of package purse: Burn, Out, In, Move.
  Plain: how a chain begins; a stake that changes nothing till the cycles are over. No program in sight.
  A chain of package chain in memory: how it lies; steps of its parts.
  Contracts of package draw: New.
-/
import Derived.Test.YtajnfkmkombajacGreatDoorQSA08
import Derived.Test.YtajnfkmkombajacGreatDoorQSA13
import Derived.Test.YtajnfkmkombajacGreatDoorQSA23
import Derived.Test.YtajnfkmkombajacGreatDoorQSA25
import Derived.Test.YtajnfkmkombajacGreatDoorQSA10
import Derived.Test.YtajnfkmkombajacGreatDoorQSA24
set_option linter.unusedVariables false
set_option linter.unusedSimpArgs false
set_option linter.unusedVariables false
namespace Go.Proofs.YtajnfkmkombajacGreatDoor
open Go.RowKit

theorem purse_Burn (A : Nat → Addr) (S : List Nat) (b : Nat) (p : PS) (n : Int) (w : World) (hE : Errs A S w) (h2 : 2 ∈ S) (h6 : 6 ∈ S) (hp : PurseAt b p w) :
    Calls Tryz.prog 161 #[.pointer (some ⟨b, 0, none⟩), .int .i64 n] w fun e w' => e = .returned (ev A (p.burnOp n).1) ∧ PurseP b (p.burnOp n).2 w w' := by
  have g2 : w.cell? ⟨0, 0, none⟩ = some (.iface 386 (.pointer (some (A 2)))) := hE.cell 2 h2
  have g6 : w.cell? ⟨6, 0, none⟩ = some (.iface 386 (.pointer (some (A 6)))) := hE.cell 6 h6
  clear hE
  have hs := hp.supply
  have hy := hp.sum
  have f2 := hp.frozen 7
  have b2 := hp.ok.le
  have b3 := hp.ok.most
  have b4 := hp.ok.sum_bd
  by_cases hn : amtB n = true
  · obtain ⟨n0, n1⟩ := amtB_iff.1 hn
    by_cases hm : p.supply - p.sum < n
    · have E1 := Lib.hid (show p.burnOp n = (6, p) by unfold PS.burnOp; rw [if_neg (by rw [hn]; decide), if_pos hm])
      have HP := Lib.hid hp
      clear hp
      generalize p.supply = z at *
      generalize p.sum = y at *
      go_enter Tryz.func161, Tryz.ntmps161
      go_wp2_with (go_at_call 90; refine (part_Amount _ _).mono ?_; rintro e w' ⟨rfl, rfl⟩)
      go_quiet (fail)
      go_wp2
      go_ret
      exact ⟨by rw [E1.out]; rfl, by rw [E1.out]; exact ⟨(Keep.refl _ _).drewN _, HP.out.drewN _⟩⟩
    · have e1 : p.burnOp n = (0, p.grow (-n)) := by unfold PS.burnOp; rw [if_neg (by rw [hn]; decide), if_neg hm]
      have hok : (p.grow (-n)).Ok := by have := PS.burnOp_ok hp.ok n; rw [e1] at this; exact this
      have hset := hp.setSupply (-n) hok
      rw [show p.supply + -n = p.supply - n by omega] at hset
      have HF := Lib.hid hset
      have E1 := Lib.hid e1
      clear e1 hp hset
      generalize p.supply = z at *
      generalize p.sum = y at *
      go_enter Tryz.func161, Tryz.ntmps161
      go_wp2_with (go_at_call 90; refine (part_Amount _ _).mono ?_; rintro e w' ⟨rfl, rfl⟩)
      go_quiet (fail)
      go_wp2
      go_ret
      exact ⟨by rw [E1.out]; rfl, by rw [E1.out]; exact ⟨((Keep.refl _ _).put _).drewN _, HF.out.drewN _⟩⟩
  · have hn' : amtB n = false := by simpa using hn
    have E1 := Lib.hid (show p.burnOp n = (2, p) by unfold PS.burnOp; rw [if_pos hn'])
    have HP := Lib.hid hp
    clear hp hn
    go_enter Tryz.func161, Tryz.ntmps161
    go_wp2_with (go_at_call 90; refine (part_Amount _ _).mono ?_; rintro e w' ⟨rfl, rfl⟩)
    go_ret
    exact ⟨by rw [E1.out]; rfl, by rw [E1.out]; exact PurseP.refl HP.out⟩

theorem lookC_two {o n : Int} (h : lookC o n ≠ 0) : lookC o n = 2 := by unfold lookC at h ⊢; split at h <;> simp_all

theorem purse_Out (A : Nat → Addr) (S : List Nat) (b : Nat) (p : PS) (o n : Int) (w : World) (hE : Errs A S w) (h2 : 2 ∈ S) (h6 : 6 ∈ S) (hp : PurseAt b p w) :
    Calls Tryz.prog 150 #[.pointer (some ⟨b, 0, none⟩), .int .i64 o, .int .i64 n] w fun e w' => e = .returned (ev A (p.outOp o n).1) ∧ PurseP b (p.outOp o n).2 w w' := by
  have g6 : w.cell? ⟨6, 0, none⟩ = some (.iface 386 (.pointer (some (A 6)))) := hE.cell 6 h6
  have HE := Lib.hid hE; clear hE
  by_cases hl : lookC o n = 0
  · obtain ⟨ho, hn0, hn1⟩ := lookC_zero.1 hl
    have el : ev A (lookC o n) = .nilIface := by rw [hl]; rfl
    obtain ⟨h0, h1⟩ := ownB_iff.1 ho
    obtain ⟨k, rfl⟩ := Int.eq_ofNat_of_zero_le h0
    have hk : k < 6 := by omega
    have hc := hp.has hk
    have b1 := hp.ok.at_bd k
    have b2 := hp.ok.le
    have b3 := hp.ok.most
    by_cases hm : p.at k < n
    · have E1 := Lib.hid (show p.outOp k n = (6, p) by unfold PS.outOp; rw [if_neg (by rw [hl]; decide), if_pos hm])
      have HP := Lib.hid hp
      clear hp hl ho
      generalize p.at k = x at *
      go_enter Tryz.func150, Tryz.ntmps150
      go_wp2_with fail
      refine (purse_look A S _ _ _ HE.out h2).mono ?_
      rintro e w' ⟨rfl, rfl⟩
      rw [el]
      go_wp2_with fail
      go_ret
      exact ⟨by rw [E1.out]; rfl, by rw [E1.out]; exact PurseP.refl HP.out⟩
    · have E1 := Lib.hid (show p.outOp k n = (0, p.change k (-n)) by unfold PS.outOp; rw [if_neg (by rw [hl]; decide), if_neg hm])
      have c1 : 0 ≤ p.at k + -n := by omega
      have c2 : p.sum + -n ≤ p.supply := by omega
      have HP := Lib.hid hp
      have HC := Lib.hid (fun w => fun hw => purse_change b p k (-n) w hw ho c1 c2)
      clear hp hl ho c1
      generalize p.at k = x at *
      go_enter Tryz.func150, Tryz.ntmps150
      go_wp2_with fail
      refine (purse_look A S _ _ _ HE.out h2).mono ?_
      rintro e w' ⟨rfl, rfl⟩
      rw [el]
      go_wp2_with fail
      refine (HC.out _ HP.out).mono ?_
      rintro e w2 ⟨rfl, k2⟩
      go_wp2
      go_ret
      exact ⟨by rw [E1.out]; rfl, by rw [E1.out]; exact k2⟩
  · have hl2 := lookC_two hl
    have E1 := Lib.hid (show p.outOp o n = (2, p) by unfold PS.outOp; rw [if_pos hl])
    have el : ev A (lookC o n) = .iface 386 (.pointer (some (A 2))) := by rw [hl2]; rfl
    have HP := Lib.hid hp
    clear hl hl2 hp
    go_enter Tryz.func150, Tryz.ntmps150
    go_wp2_with fail
    refine (purse_look A S _ _ _ HE.out h2).mono ?_
    rintro e w' ⟨rfl, rfl⟩
    rw [el]
    go_wp2
    go_ret
    exact ⟨by rw [E1.out]; rfl, by rw [E1.out]; exact PurseP.refl HP.out⟩

theorem purse_In (A : Nat → Addr) (S : List Nat) (b : Nat) (p : PS) (o n : Int) (w : World) (hE : Errs A S w) (h2 : 2 ∈ S) (h6 : 6 ∈ S) (hp : PurseAt b p w) :
    Calls Tryz.prog 151 #[.pointer (some ⟨b, 0, none⟩), .int .i64 o, .int .i64 n] w fun e w' => e = .returned (ev A (p.inOp o n).1) ∧ PurseP b (p.inOp o n).2 w w' := by
  have g6 : w.cell? ⟨6, 0, none⟩ = some (.iface 386 (.pointer (some (A 6)))) := hE.cell 6 h6
  have HE := Lib.hid hE; clear hE
  by_cases hl : lookC o n = 0
  · obtain ⟨ho, hn0, hn1⟩ := lookC_zero.1 hl
    have el : ev A (lookC o n) = .nilIface := by rw [hl]; rfl
    have hs := hp.supply
    have hy := hp.sum
    have b1 := hp.ok.at_bd o
    have b2 := hp.ok.le
    have b3 := hp.ok.most
    have b4 := hp.ok.sum_bd
    by_cases hm : p.supply - p.sum < n
    · have E1 := Lib.hid (show p.inOp o n = (6, p) by unfold PS.inOp; rw [if_neg (by rw [hl]; decide), if_pos hm])
      have HP := Lib.hid hp
      clear hp hl ho b1
      generalize p.supply = z at *
      generalize p.sum = y at *
      go_enter Tryz.func151, Tryz.ntmps151
      go_wp2_with fail
      refine (purse_look A S _ _ _ HE.out h2).mono ?_
      rintro e w' ⟨rfl, rfl⟩
      rw [el]
      go_wp2_with fail
      go_quiet (fail)
      go_wp2
      go_ret
      exact ⟨by rw [E1.out]; rfl, by rw [E1.out]; exact ⟨(Keep.refl _ _).drewN _, HP.out.drewN _⟩⟩
    · have E1 := Lib.hid (show p.inOp o n = (0, p.change o n) by unfold PS.inOp; rw [if_neg (by rw [hl]; decide), if_neg hm])
      have c1 : 0 ≤ p.at o + n := by omega
      have c2 : p.sum + n ≤ p.supply := by omega
      have HP := Lib.hid hp
      have HC := Lib.hid (fun w => fun hw => purse_change b p o n w hw ho c1 c2)
      clear hp hl ho c1 b1
      generalize p.supply = z at *
      generalize p.sum = y at *
      go_enter Tryz.func151, Tryz.ntmps151
      go_wp2_with fail
      refine (purse_look A S _ _ _ HE.out h2).mono ?_
      rintro e w' ⟨rfl, rfl⟩
      rw [el]
      go_wp2_with fail
      go_quiet (fail)
      go_wp2_with fail
      refine (HC.out _ (HP.out.drewN _)).mono ?_
      rintro e w2 ⟨rfl, k2⟩
      go_wp2
      go_ret
      exact ⟨by rw [E1.out]; rfl, by rw [E1.out]; exact ⟨((Keep.refl _ _).drewN _).trans k2.1, k2.2⟩⟩
  · have hl2 := lookC_two hl
    have E1 := Lib.hid (show p.inOp o n = (2, p) by unfold PS.inOp; rw [if_pos hl])
    have el : ev A (lookC o n) = .iface 386 (.pointer (some (A 2))) := by rw [hl2]; rfl
    have HP := Lib.hid hp
    clear hl hl2 hp
    go_enter Tryz.func151, Tryz.ntmps151
    go_wp2_with fail
    refine (purse_look A S _ _ _ HE.out h2).mono ?_
    rintro e w' ⟨rfl, rfl⟩
    rw [el]
    go_wp2
    go_ret
    exact ⟨by rw [E1.out]; rfl, by rw [E1.out]; exact PurseP.refl HP.out⟩

theorem outOp_c {p : PS} {o n : Int} : (p.outOp o n).1 = 0 ∨ (p.outOp o n).1 = 2 ∨ (p.outOp o n).1 = 6 := by
  unfold PS.outOp; split
  · simp
  · split <;> simp
theorem ev_ne {A : Nat → Addr} {c : Nat} (h : c ≠ 0) : ev A c = .iface 386 (.pointer (some (A c))) := if_neg h

/-- the errors' variables do not lie in block b -/
def Far (S : List Nat) (b : Nat) : Prop := ∀ c, c ∈ S → gE c ≠ b
theorem Errs.pp {A : Nat → Addr} {S : List Nat} {b : Nat} {p : PS} {w w' : World} (h : Errs A S w) (hf : Far S b) (k : PurseP b p w w') : Errs A S w' := h.keep k.1 hf

theorem purse_Move (A : Nat → Addr) (S : List Nat) (b : Nat) (p : PS) (x y n : Int) (w : World) (hE : Errs A S w) (h2 : 2 ∈ S) (h6 : 6 ∈ S) (hf : Far S b) (hp : PurseAt b p w) :
    Calls Tryz.prog 152 #[.pointer (some ⟨b, 0, none⟩), .int .i64 x, .int .i64 y, .int .i64 n] w fun e w' => e = .returned (ev A (p.moveOp x y n).1) ∧ PurseP b (p.moveOp x y n).2 w w' := by
  have HE := Lib.hid hE; clear hE
  by_cases hl : lookC y n = 0
  · have el : ev A (lookC y n) = .nilIface := by rw [hl]; rfl
    by_cases ho : (p.outOp x n).1 = 0
    · have E1 := Lib.hid (show p.moveOp x y n = (p.outOp x n).2.inOp y n by unfold PS.moveOp; rw [hl, ho]; rfl)
      have eo : ev A (p.outOp x n).1 = .nilIface := by rw [ho]; rfl
      have HP := Lib.hid hp
      clear hp hl ho
      go_enter Tryz.func152, Tryz.ntmps152
      go_wp2_with fail
      refine (purse_look A S _ _ _ HE.out h2).mono ?_
      rintro e w' ⟨rfl, rfl⟩
      rw [el]
      go_wp2_with fail
      refine (purse_Out A S b p x n _ HE.out h2 h6 HP.out).mono ?_
      rintro e w1 ⟨rfl, k1⟩
      rw [eo]
      have K1 := Lib.hid k1; clear k1
      go_wp2_with fail
      refine (purse_In A S b _ y n _ (HE.out.pp hf K1.out) h2 h6 K1.out.2).mono ?_
      rintro e w2 ⟨rfl, k2⟩
      have K2 := Lib.hid k2; clear k2
      go_wp2
      go_ret
      exact ⟨by rw [E1.out]; rfl, by rw [E1.out]; exact K1.out.trans K2.out⟩
    · have E1 := Lib.hid (show p.moveOp x y n = p.outOp x n by unfold PS.moveOp; rw [if_neg (by rw [hl]; decide), if_pos ho])
      have eo : ev A (p.outOp x n).1 = .iface 386 (.pointer (some (A (p.outOp x n).1))) := ev_ne ho
      have HP := Lib.hid hp
      clear hp hl ho
      go_enter Tryz.func152, Tryz.ntmps152
      go_wp2_with fail
      refine (purse_look A S _ _ _ HE.out h2).mono ?_
      rintro e w' ⟨rfl, rfl⟩
      rw [el]
      go_wp2_with fail
      refine (purse_Out A S b p x n _ HE.out h2 h6 HP.out).mono ?_
      rintro e w1 ⟨rfl, k1⟩
      rw [eo]
      have K1 := Lib.hid k1; have EO := Lib.hid eo; clear k1 eo
      go_wp2
      go_ret
      exact ⟨by rw [E1.out, EO.out]; rfl, by rw [E1.out]; exact K1.out⟩
  · have hl2 := lookC_two hl
    have E1 := Lib.hid (show p.moveOp x y n = (2, p) by unfold PS.moveOp; rw [if_pos hl])
    have el : ev A (lookC y n) = .iface 386 (.pointer (some (A 2))) := by rw [hl2]; rfl
    have HP := Lib.hid hp
    clear hl hl2 hp
    go_enter Tryz.func152, Tryz.ntmps152
    go_wp2_with fail
    refine (purse_look A S _ _ _ HE.out h2).mono ?_
    rintro e w' ⟨rfl, rfl⟩
    rw [el]
    go_wp2
    go_ret
    exact ⟨by rw [E1.out]; rfl, by rw [E1.out]; exact PurseP.refl HP.out⟩
end Go.Proofs.YtajnfkmkombajacGreatDoor
namespace Go.Proofs.YtajnfkmkombajacGreatDoor
open Go.RowKit

/-- the purse when k owners have their first -/
def PS.first (k : Nat) : PS := ⟨List.replicate k 10000 ++ List.replicate (6 - k) 0, 10000 * k, 10000 * k⟩
theorem PS.first_step {k : Nat} (h : k < 6) : (PS.first k).mintOp k 10000 = (0, PS.first (k + 1)) := by
  match k, h with
  | 0, _ => rfl
  | 1, _ => rfl
  | 2, _ => rfl
  | 3, _ => rfl
  | 4, _ => rfl
  | 5, _ => rfl
theorem PS.first_zero : PS.first 0 = PS.new := rfl
/-- a pool with a first stake of owner k -/
def QS.first (k : Nat) : QS := ⟨1000, 1000, [0, 0, 0, 0, 0, 0].set k 1000⟩
/-- purse and stakes when k bakers have begun -/
def firstP (k : Nat) : PS := ⟨List.replicate k 9000 ++ List.replicate (6 - k) 10000, 60000 - 1000 * k, 60000⟩
def firstS (k : Nat) : SS := ⟨(List.range k).map (fun i => some (QS.first i)) ++ List.replicate (3 - k) none, []⟩
def firstC (k : Nat) (pics : List (List Int)) : CS := ⟨firstP k, firstS k, KS.new, 0, 0, 0, pics⟩
theorem first_reg {k : Nat} (h : k < 3) : ∃ s, (firstS k).regOp k = (0, s) ∧ ∀ pics, CS.stakeOp ⟨firstP k, s, KS.new, 0, 0, 0, pics⟩ k k 1000 = (0, firstC (k + 1) pics) := by
  match k, h with
  | 0, _ => exact ⟨_, rfl, fun _ => rfl⟩
  | 1, _ => exact ⟨_, rfl, fun _ => rfl⟩
  | 2, _ => exact ⟨_, rfl, fun _ => rfl⟩
def pic0 : List Int := [1000, 1000, 1000]
def CS.new : CS := firstC 3 [pic0, pic0, pic0]
theorem first_picture (pics : List (List Int)) : (firstC 3 pics).s.picture = pic0 := show (firstS 3).picture = pic0 by decide
theorem firstP_ok : (firstP 3).Ok := by
  refine ⟨by decide, ?_, by decide, by decide, by decide⟩
  decide
theorem firstS_ok : (firstS 3).Ok := by
  have h0 : (firstS 3).Ok := by
    have a0 := SS.new_ok
    have a1 := SS.joinOp_ok (SS.regOp_ok a0 0) 0 0 1000
    have a2 := SS.joinOp_ok (SS.regOp_ok a1 1) 1 1 1000
    have a3 := SS.joinOp_ok (SS.regOp_ok a2 2) 2 2 1000
    exact a3
  exact h0
theorem CS.new_inv : CS.new.Inv := by
  refine ⟨firstP_ok, firstS_ok, fun k h0 h3 => ?_, by decide, (fun x hx => by cases hx), Nat.le_refl _, by decide, by decide, rfl, fun l hl => ?_, by decide, by decide⟩
  · obtain ⟨j, rfl⟩ := Int.eq_ofNat_of_zero_le h0
    match j, (by omega : j < 3) with
    | 0, _ => rfl
    | 1, _ => rfl
    | 2, _ => rfl
  · have : l = pic0 := by
      have hl' : l ∈ [pic0, pic0, pic0] := hl
      simpa using hl'
    subst this
    refine ⟨rfl, ?_, by decide⟩
    decide

/-! ### till the cycles are over -/
/-- i blocks have been baked; the pictures of the first cycles are still those of the beginning -/
structure Early (i : Nat) (c : CS) : Prop where
  inv : c.Inv
  level : c.level = i
  cycle : c.cycle = ((i / 4 : Nat) : Int)
  pics : ∀ j, j + i / 4 < 3 → c.pics[j]? = some pic0
theorem Early.new : Early 0 CS.new := ⟨CS.new_inv, rfl, rfl, fun j hj => by
  match j, (by omega : j < 3) with
  | 0, _ => rfl
  | 1, _ => rfl
  | 2, _ => rfl⟩
theorem Early.stake {i : Nat} {c : CS} (h : Early i c) (o b n : Int) : Early i (c.stakeOp o b n).2 := by
  have e : (c.stakeOp o b n).2.level = c.level ∧ (c.stakeOp o b n).2.cycle = c.cycle ∧ (c.stakeOp o b n).2.pics = c.pics := by
    unfold CS.stakeOp; split
    · exact ⟨rfl, rfl, rfl⟩
    · split <;> exact ⟨rfl, rfl, rfl⟩
  exact ⟨(CS.stake_inv h.inv o b n).1, e.1.trans h.level, e.2.1.trans h.cycle, fun j hj => by rw [e.2.2]; exact h.pics j hj⟩
theorem CS.reward_keeps (c : CS) (b : Int) : (c.reward b).2.pics = c.pics ∧ (c.reward b).2.k = c.k ∧ (c.reward b).2.bonus = c.bonus := by
  unfold CS.reward; split
  · exact ⟨rfl, rfl, rfl⟩
  · split
    · exact ⟨rfl, rfl, rfl⟩
    · split <;> exact ⟨rfl, rfl, rfl⟩
theorem CS.judges_pics : ∀ (l : List (Int × EV)) (c : CS), (l.foldl CS.judge c).pics = c.pics ∧ (l.foldl CS.judge c).cycle = c.cycle ∧ (l.foldl CS.judge c).level = c.level
  | [], _ => ⟨rfl, rfl, rfl⟩
  | x :: l, c => CS.judges_pics l (c.judge x)
theorem Early.bake {i : Nat} {c : CS} (h : Early i c) (b : Int) : Early (i + 1) ((c.reward b).2.stepOp) := by
  obtain ⟨h1, h2, h3, h4, h5⟩ := CS.reward_inv h.inv b
  obtain ⟨k1, k2, k3⟩ := CS.reward_keeps c b
  obtain ⟨s1, s2, s3, s4, s5⟩ := CS.step_inv h1
  have hl := h.level
  refine ⟨s1, by rw [s4, h5, hl]; omega, ?_, fun j hj => ?_⟩
  · unfold CS.stepOp
    rw [h5, hl]
    by_cases hd : ((i : Int) + 1) % 4 = 0
    · rw [if_pos hd]
      show (CS.judged _).cycle + 1 = _
      unfold CS.judged
      rw [(CS.judges_pics _ _).2.1]
      show (c.reward b).2.cycle + 1 = _
      rw [h4, h.cycle]; omega
    · rw [if_neg hd]
      show (c.reward b).2.cycle = _
      rw [h4, h.cycle]; omega
  · unfold CS.stepOp
    rw [h5, hl]
    by_cases hd : ((i : Int) + 1) % 4 = 0
    · rw [if_pos hd]
      show ((CS.judged _).pics.drop 1 ++ [_])[j]? = _
      unfold CS.judged
      rw [(CS.judges_pics _ _).1]
      show ((c.reward b).2.pics.drop 1 ++ [_])[j]? = _
      have hl3 : c.pics.length = 3 := h.inv.three
      rw [k1, List.getElem?_append_left (by rw [List.length_drop, hl3]; omega), List.getElem?_drop]
      exact h.pics (1 + j) (by omega)
    · rw [if_neg hd]
      show (c.reward b).2.pics[j]? = _
      rw [k1]
      exact h.pics j (by omega)
theorem first_join {q : QS} (ht : q.total = 1000) (ha : q.all = 1000) {o n : Int} (ho : ownB o = true) (hn : 1 ≤ n) (hn5 : n ≤ 5000) : (q.joinOp o n).1 = 0 := by
  have hl : plookC o n = 0 := plookC_zero.2 ⟨ho, hn, by omega⟩
  have e : n * 1000 / 1000 = n := Int.mul_ediv_cancel n (by decide)
  obtain ⟨y1, y2, _⟩ := over_yes (show overOk n 1000 1000 from ⟨⟨by omega, by omega⟩, ⟨by omega, by omega⟩, by omega, by rw [e]; omega⟩)
  rw [e] at y2
  have hc : q.joinC n = 0 := by unfold QS.joinC; rw [if_pos (by omega), ht, ha, y1]
  have hs : q.joinS n = n := by unfold QS.joinS; rw [if_pos (by omega), ht, ha, y2]
  unfold QS.joinOp
  rw [if_neg (by simp [hl]), if_neg (by omega), if_neg (by simp [hc]), hs, if_neg (by omega), if_neg (by omega)]
theorem later_stake {o b n : Int} (ho : 0 ≤ o) (ho6 : o < 6) (hb : 0 ≤ b) (hb3 : b < 3) (hn : 1 ≤ n) (hn5 : n ≤ 5000) : (CS.new.stakeOp o b n).1 = 0 := by
  have hob : ownB o = true := ownB_iff.2 ⟨ho, ho6⟩
  have hl : lookC o n = 0 := lookC_zero.2 ⟨hob, by omega, by omega⟩
  have hat : 9000 ≤ CS.new.p.at o := by
    obtain ⟨k, rfl⟩ := Int.eq_ofNat_of_zero_le ho
    match k, (by omega : k < 6) with
    | 0, _ => decide
    | 1, _ => decide
    | 2, _ => decide
    | 3, _ => decide
    | 4, _ => decide
    | 5, _ => decide
  have h1 : (CS.new.p.outOp o n).1 = 0 := by
    unfold PS.outOp; rw [if_neg (by simp [hl]), if_neg (by omega)]
  have h2 : (CS.new.s.joinOp o b n).1 = 0 := by
    obtain ⟨k, rfl⟩ := Int.eq_ofNat_of_zero_le hb
    have : ∃ q, CS.new.s.pool k = some q ∧ q.total = 1000 ∧ q.all = 1000 := by
      match k, (by omega : k < 3) with
      | 0, _ => exact ⟨_, rfl, rfl, rfl⟩
      | 1, _ => exact ⟨_, rfl, rfl, rfl⟩
      | 2, _ => exact ⟨_, rfl, rfl, rfl⟩
    obtain ⟨q, hq, ht, ha⟩ := this
    unfold SS.joinOp; rw [hq]
    exact first_join ht ha hob hn hn5
  unfold CS.stakeOp
  rw [if_neg (by simp [h1]), if_neg (by simp [h2])]
end Go.Proofs.YtajnfkmkombajacGreatDoor
namespace Go.Proofs.YtajnfkmkombajacGreatDoor
open Go.RowKit Go.Maps

/-- the pictures: a slice of slices of numbers, among the blocks F -/
structure PicsAt (F : Nat → Prop) (pv : Value) (pics : List (List Int)) (w : World) : Prop where
  own : ∃ vs, OwnSl 0 38 pv vs w ∧ vs.length = pics.length ∧ ∀ (i : Nat) v z, vs[i]? = some v → pics[i]? = some z → ∃ ao cap, v = .slice ao z.length cap ∧ RdI .i64 w ao z.length cap z ∧ ∀ a, ao = some a → F a.block ∧ pv.ownBlock ≠ some a.block
  blk : ∀ g, pv.ownBlock = some g → F g
theorem PicsAt.keep {F G : Nat → Prop} {pv : Value} {pics : List (List Int)} {w w' : World} (h : PicsAt F pv pics w) (K : Keep G w w') (hG : ∀ b, F b → ¬ G b) : PicsAt F pv pics w' := by
  obtain ⟨vs, h1, h2, h3⟩ := h.own
  refine ⟨⟨vs, h1.keep K (fun g hg => hG g (h.blk g hg)), h2, fun i v z hv hz => ?_⟩, h.blk⟩
  obtain ⟨ao, cap, e, R, hb⟩ := h3 i v z hv hz
  exact ⟨ao, cap, e, R.keep K (fun a ha => hG _ (hb a ha).1), hb⟩
theorem PicsAt.mono {F G : Nat → Prop} {pv : Value} {pics : List (List Int)} {w : World} (h : PicsAt F pv pics w) (hG : ∀ b, F b → G b) : PicsAt G pv pics w := by
  obtain ⟨vs, h1, h2, h3⟩ := h.own
  refine ⟨⟨vs, h1, h2, fun i v z hv hz => ?_⟩, fun g hg => hG g (h.blk g hg)⟩
  obtain ⟨ao, cap, e, R, hb⟩ := h3 i v z hv hz
  exact ⟨ao, cap, e, R, fun a ha => ⟨hG _ (hb a ha).1, (hb a ha).2⟩⟩

/-- where a chain's parts lie -/
structure ChL where
  pb : Nat
  sb : Nat
  kb : Nat
  Fs : Nat → Prop
  Fk : Nat → Prop
  Fp : Nat → Prop
  pv : Value
def ChL.foot (K : ChL) (cb : Nat) (b : Nat) : Prop := b = cb ∨ b = K.pb ∨ K.Fs b ∨ K.Fk b ∨ K.Fp b

def chainVs (K : ChL) (sd : Nat) (x : CS) : List Value :=
  [.pointer (some ⟨K.pb, 0, none⟩), .pointer (some ⟨K.sb, 0, none⟩), .pointer (some ⟨K.kb, 0, none⟩), .int .u64 sd, .int .i64 x.cycle, .int .i64 x.level, .int .i64 x.bonus, K.pv]
structure ChainL (cb : Nat) (K : ChL) (n : Nat) (sd : Nat) (x : CS) (w : World) : Prop where
  row : RowAt cb 59 (chainVs K sd x) w
  purse : PurseAt K.pb x.p w
  st : StakesAt K.sb K.Fs n x.s w
  ct : CourtAt K.kb K.Fk n x.k w
  pics : PicsAt K.Fp K.pv x.pics w
  pl : ∀ b, K.Fp b → b < w.heap.size
  d0 : cb ≠ K.pb ∧ ¬ K.Fs cb ∧ ¬ K.Fk cb ∧ ¬ K.Fp cb
  d1 : ¬ K.Fs K.pb ∧ ¬ K.Fk K.pb ∧ ¬ K.Fp K.pb
  d2 : ∀ b, K.Fs b → ¬ K.Fk b ∧ ¬ K.Fp b
  d3 : ∀ b, K.Fk b → ¬ K.Fp b

section
variable {cb n m sd : Nat} {K : ChL} {x : CS} {w w' : World}
theorem ChainL.cell (h : ChainL cb K n sd x w) (i : Nat) : w.cell? ⟨cb, i, none⟩ = (chainVs K sd x)[i]? := h.row.cell i
theorem ChainL.keep {G : Nat → Prop} (h : ChainL cb K n sd x w) (k : Keep G w w') (hG : ∀ b, K.foot cb b → ¬ G b) : ChainL cb K n sd x w' :=
  ⟨h.row.keep k (hG _ (.inl rfl)), h.purse.keep k (hG _ (.inr (.inl rfl))), h.st.keep k (fun b hb => hG b (.inr (.inr (.inl hb)))), h.ct.keep k (fun b hb => hG b (.inr (.inr (.inr (.inl hb))))),
    h.pics.keep k (fun b hb => hG b (.inr (.inr (.inr (.inr hb))))), fun b hb => Nat.lt_of_lt_of_le (h.pl b hb) k.size, h.d0, h.d1, h.d2, h.d3⟩
theorem ChainL.below (h : ChainL cb K n sd x w) (k : Below w.heap.size w w') : ChainL cb K n sd x w' := h.keep (G := fun _ => False) (Keep.of_below k) (fun _ _ => id)
theorem ChainL.drewN (h : ChainL cb K n sd x w) (j : Nat) : ChainL cb K n sd x (w.drewN j) := h.keep (G := fun _ => False) ((Keep.refl _ _).drewN j) (fun _ _ => id)
theorem ChainL.mono (h : ChainL cb K n sd x w) (hm : n ≤ m) : ChainL cb K m sd x w := ⟨h.row, h.purse, h.st.mono hm, h.ct.mono hm, h.pics, h.pl, h.d0, h.d1, h.d2, h.d3⟩
theorem ChainL.footlt (h : ChainL cb K n sd x w) : ∀ b, K.foot cb b → b < w.heap.size := fun b hb => by
  rcases hb with rfl | rfl | hb | hb | hb
  · exact h.row.lt
  · exact h.purse.lt
  · exact h.st.lt hb
  · exact h.ct.lt b hb
  · exact h.pl b hb
/-- the purse has turned -/
theorem ChainL.purse' (h : ChainL cb K n sd x w) {p : PS} (k : PurseP K.pb p w w') : ChainL cb K n sd { x with p := p } w' :=
  ⟨h.row.keep k.1 h.d0.1, k.2, h.st.keep k.1 (fun b hb e => by subst e; exact h.d1.1 hb), h.ct.keep k.1 (fun b hb e => by subst e; exact h.d1.2.1 hb), h.pics.keep k.1 (fun b hb e => by subst e; exact h.d1.2.2 hb),
    fun b hb => Nat.lt_of_lt_of_le (h.pl b hb) k.1.size, h.d0, h.d1, h.d2, h.d3⟩
def ChL.withS (K : ChL) (w w' : World) : ChL := { K with Fs := grownF K.Fs w w' }
def ChL.withK (K : ChL) (w w' : World) : ChL := { K with Fk := grownF K.Fk w w' }
/-- the stakes have turned -/
theorem ChainL.stakes' (h : ChainL cb K n sd x w) {s : SS} (hm : n ≤ m) (k : StakesP K.sb K.Fs m s w w') : ChainL cb (K.withS w w') m sd { x with s := s } w' := by
  have hc := h.row.lt; have hp := h.purse.lt
  refine ⟨h.row.keep k.1 h.d0.2.1, h.purse.keep k.1 h.d1.1, k.2, (h.ct.mono hm).keep k.1 (fun b hb hf => (h.d2 b hf).1 hb), h.pics.keep k.1 (fun b hb hf => (h.d2 b hf).2 hb), fun b hb => Nat.lt_of_lt_of_le (h.pl b hb) k.1.size,
    ⟨h.d0.1, fun hf => ?_, h.d0.2.2⟩, ⟨fun hf => ?_, h.d1.2⟩, fun b hf => ?_, h.d3⟩
  · rcases hf with hf | hf
    · exact h.d0.2.1 hf
    · omega
  · rcases hf with hf | hf
    · exact h.d1.1 hf
    · have : K.pb < w.heap.size := hp
      have : w.heap.size ≤ K.pb := hf.1
      omega
  · rcases hf with hf | hf
    · exact h.d2 b hf
    · exact ⟨fun hb => by have := h.ct.lt b hb; omega, fun hb => by have := h.pl b hb; omega⟩
/-- the court has turned -/
theorem ChainL.court' (h : ChainL cb K n sd x w) {c : KS} (hm : n ≤ m) (k : CourtP K.kb K.Fk m c w w') : ChainL cb (K.withK w w') m sd { x with k := c } w' := by
  have hc := h.row.lt; have hp := h.purse.lt
  refine ⟨h.row.keep k.1 h.d0.2.2.1, h.purse.keep k.1 h.d1.2.1, (h.st.mono hm).keep k.1 (fun b hb hf => (h.d2 b hb).1 hf), k.2, h.pics.keep k.1 (fun b hb hf => h.d3 b hf hb), fun b hb => Nat.lt_of_lt_of_le (h.pl b hb) k.1.size,
    ⟨h.d0.1, h.d0.2.1, fun hf => ?_, h.d0.2.2.2⟩, ⟨h.d1.1, fun hf => ?_, h.d1.2.2⟩, fun b hb => ⟨fun hf => ?_, (h.d2 b hb).2⟩, fun b hf => ?_⟩
  · rcases hf with hf | hf
    · exact h.d0.2.2.1 hf
    · omega
  · rcases hf with hf | hf
    · exact h.d1.2.1 hf
    · have : K.pb < w.heap.size := hp
      have : w.heap.size ≤ K.pb := hf.1
      omega
  · rcases hf with hf | hf
    · exact (h.d2 b hb).1 hf
    · have := h.st.lt hb; omega
  · rcases hf with hf | hf
    · exact h.d3 b hf
    · exact fun hb => by have := h.pl b hb; omega
end

/-- block cb is a chain of seed sd that holds x, among the blocks F -/
def ChainAt (cb : Nat) (F : Nat → Prop) (n sd : Nat) (x : CS) (w : World) : Prop := ∃ K, ChainL cb K n sd x w ∧ (∀ b, K.foot cb b → F b) ∧ ∀ b, F b → b < w.heap.size
def ChainP (cb : Nat) (F : Nat → Prop) (n sd : Nat) (x : CS) (w w' : World) : Prop := Keep F w w' ∧ ChainAt cb (grownF F w w') n sd x w'

section
variable {cb n m sd : Nat} {F G : Nat → Prop} {x : CS} {w w' : World}
theorem ChainAt.keep (h : ChainAt cb F n sd x w) (k : Keep G w w') (hG : ∀ b, F b → ¬ G b) : ChainAt cb F n sd x w' := by
  obtain ⟨K, h1, h2, h3⟩ := h
  exact ⟨K, h1.keep k (fun b hb => hG b (h2 b hb)), h2, fun b hb => Nat.lt_of_lt_of_le (h3 b hb) k.size⟩
theorem ChainAt.below (h : ChainAt cb F n sd x w) (k : Below w.heap.size w w') : ChainAt cb F n sd x w' := h.keep (G := fun _ => False) (Keep.of_below k) (fun _ _ => id)
theorem ChainAt.mono (h : ChainAt cb F n sd x w) (hm : n ≤ m) : ChainAt cb F m sd x w := by
  obtain ⟨K, h1, h2, h3⟩ := h
  exact ⟨K, h1.mono hm, h2, h3⟩
theorem ChainAt.lt (h : ChainAt cb F n sd x w) : ∀ b, F b → b < w.heap.size := by obtain ⟨K, h1, h2, h3⟩ := h; exact h3
theorem ChainP.of_below (h : ChainAt cb F n sd x w) (hb : Below w.heap.size w w') : ChainP cb F n sd x w w' := by
  obtain ⟨K, h1, h2, h3⟩ := h
  exact ⟨Keep.of_below hb, K, h1.below hb, fun b hk => .inl (h2 b hk), grownF_lt h3 hb.size⟩
theorem ChainP.mono (h : ChainP cb F n sd x w w') (hm : n ≤ m) : ChainP cb F m sd x w w' := ⟨h.1, h.2.mono hm⟩
end

/-- since world W: a step of a chain that is under way. K0 where the call began, K now. -/
structure ChGo (W : World) (F : Nat → Prop) (cb : Nat) (K : ChL) (n sd : Nat) (x : CS) (w : World) : Prop where
  keep : Keep F W w
  ch : ChainL cb K n sd x w
  foot : ∀ b, K.foot cb b → F b ∨ (W.heap.size ≤ b ∧ b < w.heap.size)
  Flt : ∀ b, F b → b < W.heap.size
section
variable {cb n m sd : Nat} {F : Nat → Prop} {K : ChL} {x : CS} {W w w' : World}
theorem ChGo.start (h : ChainL cb K n sd x w) (hF : ∀ b, K.foot cb b → F b) (hl : ∀ b, F b → b < w.heap.size) : ChGo w F cb K n sd x w := ⟨Keep.refl _ _, h, fun b hb => .inl (hF b hb), hl⟩
theorem ChGo.stop (h : ChGo W F cb K n sd x w) : ChainP cb F n sd x W w := ⟨h.keep, K, h.ch, h.foot, grownF_lt h.Flt h.keep.size⟩
theorem ChGo.below (h : ChGo W F cb K n sd x w) (k : Below w.heap.size w w') : ChGo W F cb K n sd x w' :=
  ⟨h.keep.trans (Keep.of_below k), h.ch.below k, fun b hb => (h.foot b hb).imp id (fun ⟨a, c⟩ => ⟨a, Nat.lt_of_lt_of_le c k.size⟩), h.Flt⟩
theorem ChGo.drewN (h : ChGo W F cb K n sd x w) (j : Nat) : ChGo W F cb K n sd x (w.drewN j) := h.below ((Below.refl _ _).drewN j)
theorem ChGo.dr (h : ChGo W F cb K n sd x w) (k : Dr w w') : ChGo W F cb K n sd x w' := by obtain ⟨j, rfl⟩ := k; exact h.drewN j
theorem ChGo.mono (h : ChGo W F cb K n sd x w) (hm : n ≤ m) : ChGo W F cb K m sd x w := ⟨h.keep, h.ch.mono hm, h.foot, h.Flt⟩
theorem ChGo.step (h : ChGo W F cb K n sd x w) {G : Nat → Prop} (k : Keep G w w') (hG : ∀ b, G b → K.foot cb b) {K' : ChL} {y : CS} (hc : ChainL cb K' m sd y w') (hf : ∀ b, K'.foot cb b → K.foot cb b ∨ (w.heap.size ≤ b ∧ b < w'.heap.size)) : ChGo W F cb K' m sd y w' := by
  refine ⟨h.keep.andThen k (fun b hb => (h.foot b (hG b hb)).imp id (·.1)), hc, fun b hb => ?_, h.Flt⟩
  have hs := k.size; have hs0 := h.keep.size
  rcases hf b hb with hb | hb
  · rcases h.foot b hb with hb | hb
    · exact .inl hb
    · exact .inr ⟨hb.1, by omega⟩
  · exact .inr ⟨by omega, hb.2⟩
theorem ChGo.purse (h : ChGo W F cb K n sd x w) {p : PS} (k : PurseP K.pb p w w') : ChGo W F cb K n sd { x with p := p } w' :=
  h.step k.1 (fun b hb => .inr (.inl hb)) (h.ch.purse' k) (fun b hb => .inl hb)
theorem ChGo.stakes (h : ChGo W F cb K n sd x w) {s : SS} (hm : n ≤ m) (k : StakesP K.sb K.Fs m s w w') : ChGo W F cb (K.withS w w') m sd { x with s := s } w' :=
  h.step k.1 (fun b hb => .inr (.inr (.inl hb))) (h.ch.stakes' hm k) (fun b hb => by
    rcases hb with hb | hb | hb | hb
    · exact .inl (.inl hb)
    · exact .inl (.inr (.inl hb))
    · rcases hb with hb | hb
      · exact .inl (.inr (.inr (.inl hb)))
      · exact .inr hb
    · exact .inl (.inr (.inr (.inr hb))))
theorem ChGo.court (h : ChGo W F cb K n sd x w) {c : KS} (hm : n ≤ m) (k : CourtP K.kb K.Fk m c w w') : ChGo W F cb (K.withK w w') m sd { x with k := c } w' :=
  h.step k.1 (fun b hb => .inr (.inr (.inr (.inl hb)))) (h.ch.court' hm k) (fun b hb => by
    rcases hb with hb | hb | hb | hb | hb
    · exact .inl (.inl hb)
    · exact .inl (.inr (.inl hb))
    · exact .inl (.inr (.inr (.inl hb)))
    · rcases hb with hb | hb
      · exact .inl (.inr (.inr (.inr (.inl hb))))
      · exact .inr hb
    · exact .inl (.inr (.inr (.inr (.inr hb)))))
/-- one of the chain's own numbers is written -/
theorem ChGo.put (h : ChGo W F cb K n sd x w) {i : Nat} {v : Value} {y : CS} (hv : (chainVs K sd x).set i v = chainVs K sd y) (hp : y.p = x.p) (hs : y.s = x.s) (hk : y.k = x.k) (hc : y.pics = x.pics) : ChGo W F cb K n sd y (w.setCell ⟨cb, i, none⟩ v) := by
  have k : Keep (· = cb) w (w.setCell ⟨cb, i, none⟩ v) := (Keep.refl _ _).put v
  have c := h.ch
  refine h.step k (fun b hb => .inl hb) ⟨?_, ?_, ?_, ?_, ?_, fun b hb => by have := c.pl b hb; simpa [World.setCell] using this, c.d0, c.d1, c.d2, c.d3⟩ (fun b hb => .inl hb)
  · rw [← hv]; exact c.row.set i v
  · rw [hp]; exact c.purse.keep k (fun e => c.d0.1 e.symm)
  · rw [hs]; exact c.st.keep k (fun b hb e => by subst e; exact c.d0.2.1 hb)
  · rw [hk]; exact c.ct.keep k (fun b hb e => by subst e; exact c.d0.2.2.1 hb)
  · rw [hc]; exact c.pics.keep k (fun b hb e => by subst e; exact c.d0.2.2.2 hb)
/-- no error's variable lies among a chain's blocks -/
theorem ChGo.errs {A : Nat → Addr} {S : List Nat} (h : ChGo W F cb K n sd x w) (hE : Errs A S W) (hFE : ∀ c ∈ S, ¬ F (gE c)) : Errs A S w := hE.keep h.keep hFE
theorem ChGo.fs (h : ChGo W F cb K n sd x w) {A : Nat → Addr} {S : List Nat} (hE : Errs A S W) (hFE : ∀ c ∈ S, ¬ F (gE c)) : ∀ c ∈ S, ¬ K.foot cb (gE c) := fun c hc hf => by
  rcases h.foot _ hf with hf | hf
  · exact hFE c hc hf
  · have := World.block_lt_of_cell? W _ (hE.cell c hc)
    simp only at this
    omega
end
end Go.Proofs.YtajnfkmkombajacGreatDoor
namespace Go.Proofs.YtajnfkmkombajacGreatDoor
open Go.RowKit

/-- what is wrong with weights: an error's number, and its place -/
def weightsF (zs : List Int) : Nat × Int := if zs.length < 1 ∨ 64 < zs.length then (3, -1) else if 0 ≤ firstBad zs then (2, firstBad zs) else if zs.sum = 0 then (4, -1) else (0, -1)

/-- blocks b and cb are a draw of the weights zs -/
structure DrawAt (b cb : Nat) (zs : List Int) (w : World) : Prop where
  d : RowAt b 203 [.int .i64 zs.sum, .slice (some ⟨cb, 0, none⟩) zs.length zs.length] w
  c : RowAt cb 253 (colVs (vose zs)) w

def NewPost (A : Nat → Addr) (zs : List Int) (w : World) (e : Ending) (w' : World) : Prop :=
  ∃ p v, e = .returned (.tuple #[p, v]) ∧ ErrIs A w w' v (weightsF zs) ∧ Below w.heap.size w w' ∧
    (((weightsF zs).1 ≠ 0 ∧ p = .pointer none) ∨ ((weightsF zs).1 = 0 ∧ ∃ b cb, p = .pointer (some ⟨b, 0, none⟩) ∧ w.heap.size ≤ b ∧ w.heap.size ≤ cb ∧ DrawAt b cb zs w'))

theorem make_cols (n : Nat) (hn : n ≤ 1000000) (w : World) : (Instr.makeSlice 201 (.int .i64 (n : Int)) (.int .i64 (n : Int))).run Tryz.prog w = .ok (.slice (some ⟨w.heap.size, 0, none⟩) n n) (w.alloc (.cells (zeroVs (n * 2)).toArray 253)) := by
  obtain ⟨i0, hi, hz0, hz1, hz2⟩ := info_parts (show (Tryz.prog.info? 253).map (fun i => (i.zero, i.size, i.bytes)) = some (some (.agg #[.int .i64 0, .int .i64 0]), 2, 16) by kernel_rfl)
  have hr := run_make (P := Tryz.prog) w 201 253 i0 _ Tryz.underlying201 hi hz0 .i64 .i64 n n (by omega) (Int.le_refl _) (by rw [hz2]; omega) (by omega)
  rw [← made_two]
  simpa [hz1, Value.cells] using hr

theorem bad_pos (zs : List Int) (h : ¬ 0 ≤ firstBad zs) : ∀ x ∈ zs, 0 ≤ x ∧ x ≤ 1073741824 := by
  intro x hx
  obtain ⟨i, hi⟩ := List.getElem?_of_mem hx
  have hn : ¬ zs.findIdx badW < zs.length := by
    intro hlt; apply h; unfold firstBad; rw [if_pos hlt]; omega
  have hall : ∀ y ∈ zs, badW y = false := by
    intro y hy
    have := List.findIdx_eq_length.1 (show zs.findIdx badW = zs.length by have := List.findIdx_le_length (p := badW) (xs := zs); omega)
    simpa using this y hy
  have := hall x hx
  simp [badW] at this
  omega
theorem sum_bds {zs : List Int} (hz : ∀ x ∈ zs, 0 ≤ x ∧ x ≤ 1073741824) : 0 ≤ zs.sum ∧ zs.sum ≤ 1073741824 * (zs.length : Int) := by
  induction zs with
  | nil => simp
  | cons a l ih =>
    have h1 := ih (fun x hx => hz x (by simp [hx])); have h2 := hz a (by simp)
    simp only [List.sum_cons, List.length_cons]; omega
theorem zero_cols (n : Nat) : zeroVs (n * 2) = colVs (List.replicate n (0, 0)) := by
  induction n with
  | zero => rfl
  | succ n ih =>
    rw [List.replicate_succ, show (n + 1) * 2 = n * 2 + 1 + 1 by omega]
    simp only [zeroVs, colVs, List.replicate_succ, List.map_cons, List.flatMap_cons] at ih ⊢
    rw [ih]; rfl

set_option maxRecDepth 8000 in
set_option maxHeartbeats 1000000 in
theorem draw_New (A : Nat → Addr) (S : List Nat) (ao : Option Addr) (cap : Nat) (zs : List Int) (w : World) (R : RdI .i64 w ao zs.length cap zs) (hE : Errs A S w) (h2 : 2 ∈ S) (h3 : 3 ∈ S) (h4 : 4 ∈ S) :
    Calls Tryz.prog 97 #[.slice ao zs.length cap] w (NewPost A zs w) := by
  have g2 : w.cell? ⟨0, 0, none⟩ = some (.iface 386 (.pointer (some (A 2)))) := hE.cell 2 h2
  have g3 : w.cell? ⟨4, 0, none⟩ = some (.iface 386 (.pointer (some (A 3)))) := hE.cell 3 h3
  have HR := Lib.hid R
  have HE := Lib.hid hE; clear hE
  by_cases hlen : zs.length < 1 ∨ 64 < zs.length
  · have HW := Lib.hid (show weightsF zs = (3, -1) from if_pos hlen)
    clear R
    by_cases h1 : zs.length < 1
    · have e1 : decide ((zs.length : Int) < 1) = true := by simp; omega
      clear hlen
      generalize hn : zs.length = n at *
      go_enter Tryz.func97, Tryz.ntmps97
      go_wp2_with fail
      go_quiet (fail)
      go_wp2_with fail
      go_ret2
      exact ⟨_, _, rfl, by rw [HW.out]; exact .inl ⟨rfl, rfl⟩, (Below.refl _ _).drewN _, .inl ⟨by rw [HW.out]; simp, rfl⟩⟩
    · have e1 : decide ((zs.length : Int) < 1) = false := by simp; omega
      have e2 : decide ((64 : Int) < (zs.length : Int)) = true := by simp; omega
      clear hlen
      generalize hn : zs.length = n at *
      go_enter Tryz.func97, Tryz.ntmps97
      go_wp2_with fail
      go_quiet (fail)
      go_wp2_with fail
      go_ret2
      exact ⟨_, _, rfl, by rw [HW.out]; exact .inl ⟨rfl, rfl⟩, (Below.refl _ _).drewN _, .inl ⟨by rw [HW.out]; simp, rfl⟩⟩
  · have e1 : decide ((zs.length : Int) < 1) = false := by simp; omega
    have e2 : decide ((64 : Int) < (zs.length : Int)) = false := by simp; omega
    clear R
    by_cases hbad : 0 ≤ firstBad zs
    · have HW := Lib.hid (show weightsF zs = (2, firstBad zs) by unfold weightsF; rw [if_neg hlen, if_pos hbad])
      clear hlen
      generalize hn : zs.length = n at *
      have HN := Lib.hid hn; clear hn
      go_enter Tryz.func97, Tryz.ntmps97
      go_wp2_with fail
      refine (slices_IndexFunc _ _ _ _ _ HR.out).mono ?_
      rintro e w' ⟨rfl, rfl⟩
      generalize hfb : firstBad zs = fb at *
      have HFB := Lib.hid hfb; clear hfb
      go_wp2_with fail
      go_region
      all_goals go_wp2_with fail
      all_goals go_ret2
      all_goals exact ⟨_, _, rfl, by rw [HW.out]; exact .inr ⟨hbad, w.heap.size, Nat.le_refl _, rfl, by simp, by simp; rfl⟩, ((Below.refl _ _).alloc (Nat.le_refl _) _).drew, .inl ⟨by rw [HW.out]; simp, rfl⟩⟩
    · have hz := bad_pos zs hbad
      have hfb : firstBad zs = -1 := by unfold firstBad at hbad ⊢; split <;> rename_i hh <;> simp_all
      have hsb := sum_bds hz
      have hW : weightsF zs = if zs.sum = 0 then (4, -1) else (0, -1) := by unfold weightsF; rw [if_neg hlen, if_neg hbad]
      have htk : ∀ k, k < zs.length → 0 ≤ (zs.take k).sum ∧ (zs.take k).sum ≤ 68719476736 := by
        intro k hk
        have h := sum_bds (zs := zs.take k) (fun x hx => hz x (List.mem_of_mem_take hx))
        rw [List.length_take] at h
        omega
      have hts : ∀ k, k < zs.length → (zs.take (k + 1)).sum = (zs.take k).sum + zs.getD k 0 := by
        intro k hk
        rw [List.take_succ_eq_append_getElem hk, List.sum_append]
        simp [hk]
      have hmk := make_cols zs.length (by omega)
      have HFB := Lib.hid hfb
      have HW := Lib.hid hW; have HZ := Lib.hid hz; have HT := Lib.hid htk; have HS := Lib.hid hts
      have hl1 : 0 < zs.length := by omega
      have hl2 : zs.length ≤ 64 := by omega
      have hs0 : 0 ≤ zs.sum := hsb.1
      have hs1 : zs.sum ≤ 68719476736 := by have := hsb.2; omega
      clear hlen hbad hz hfb hsb hW htk hts
      obtain ⟨_, wb, off, ha, hwb, hcell0⟩ := (HR.out.split).resolve_left (by omega)
      clear hcell0
      have Ha := Lib.hid ha; clear ha
      have := Ha.out; subst this
      have HFill := Lib.hid (fun b cb wx => draw_fill w (some ⟨wb, off, none⟩) cap zs b cb wx HR.out)
      have hg4 : w.cell? ⟨3, 0, none⟩ = some (.iface 386 (.pointer (some (A 4)))) := HE.out.cell 4 h4
      have g4 := Lib.hid hg4; clear hg4 g2 g3
      generalize hn : zs.length = n at *
      have HN := Lib.hid hn; clear hn
      generalize hH : zs.sum = H at *
      have HHs := Lib.hid hH; clear hH
      go_enter Tryz.func97, Tryz.ntmps97
      go_wp2_with fail
      refine (slices_IndexFunc _ _ _ _ _ HR.out).mono ?_
      rintro e w' ⟨rfl, rfl⟩
      rw [HFB.out]
      go_wp2_with fail
      go_loopg [33] n (fun g i wr => ∃ k : Nat, g + k = n ∧ i = .int .i64 k ∧ Below w.heap.size w wr ∧ RowAt w.heap.size 253 (colVs (List.replicate n (0, 0))) wr ∧ RowAt (w.heap.size + 1) 203 [.int .i64 (zs.take k).sum, .slice (some ⟨w.heap.size, 0, none⟩) n n] wr)
      case atStart =>
        refine ⟨0, rfl, rfl, ((Below.refl _ _).alloc (Nat.le_refl _) _).alloc (by simp) _, ?_, ?_⟩
        · rw [← zero_cols]
          exact (RowAt.new w 253 (zeroVs (n * 2))).alloc _
        · have := RowAt.new (w.alloc (.cells (zeroVs (n * 2)).toArray 253)) 203 [.int .i64 0, .slice (some ⟨w.heap.size, 0, none⟩) n n]
          simpa using this
      case round =>
        obtain ⟨k, hg, rfl, hb, hc, hd⟩ := hrel
        have hG := Lib.hid hg; clear hg
        clear hmk
        have q1 : wr.cell? ⟨w.heap.size + 1, 0, none⟩ = some (.int .i64 (zs.take k).sum) := by rw [hd.cell]; rfl
        have q2 := hd.frozen 0
        have hsz := hb.size
        by_cases hlt : k < n
        · obtain ⟨b', off', ha', hcz⟩ := (HR.out.below hb).cells k hlt
          cases ha'
          have hts := HS.out k hlt
          have hzk : zs.getD k 0 ∈ zs := by rw [List.getD_eq_getElem?_getD, List.getElem?_eq_getElem (by rw [HN.out]; exact hlt)]; exact List.getElem_mem _
          have hzb := HZ.out _ hzk
          have htb := HT.out k hlt
          have hnew := hd.set 0 (.int .i64 ((zs.take k).sum + zs.getD k 0))
          rw [← hts] at hnew
          have HB := Lib.hid hb; have HC := Lib.hid hc; have HNew := Lib.hid hnew; have HTS := Lib.hid hts
          clear hb hc hd hnew hts hzk
          generalize zs.getD k 0 = z at *
          generalize (zs.take k).sum = t at *
          go_wp2_with fail
          have hg := hG.out
          go_roundg (n - (k + 1))
          case measure => omega
          case rel => exact ⟨k + 1, by omega, by go_num, HB.out.setCell (by simp only; omega) _, HC.out.set_other (by simp only; omega) _, by have := HNew.out; rw [HTS.out] at this ⊢; exact this⟩
        · have hall : zs.take k = zs := List.take_of_length_le (by rw [HN.out]; omega)
          rw [hall, HHs.out] at hd q1
          have g4' := g4.out
          rw [← hb.cell (p := ⟨3, 0, none⟩) (World.block_lt_of_cell? _ _ g4')] at g4'
          have HB := Lib.hid hb; have HC := Lib.hid hc; have HD := Lib.hid hd
          clear hall hb hc hd
          by_cases hz : H = 0
          · have hW := HW.out
            rw [if_pos hz] at hW
            have HW2 := Lib.hid hW; clear hW
            subst hz
            go_wp2_with fail
            go_quiet (fail)
            go_wp2_with fail
            go_ret2
            exact ⟨_, _, rfl, by rw [HW2.out]; exact .inl ⟨rfl, rfl⟩, HB.out.drewN _, .inl ⟨by rw [HW2.out]; simp, rfl⟩⟩
          · have hW := HW.out
            rw [if_neg hz] at hW
            have HW2 := Lib.hid hW; clear hW
            have hz' : (H == 0) = false := by simpa using hz
            clear hz
            go_wp2_with fail
            refine (HFill.out (w.heap.size + 1) w.heap.size _ HB.out (by omega) (Nat.le_refl _) (by omega) HD.out HC.out hl1 hl2 HZ.out hs0 hs1).mono ?_
            rintro e w2 ⟨rfl, b2, d2, c2⟩
            have HB2 := Lib.hid b2; have HC2 := Lib.hid c2; have HD2 := Lib.hid d2
            clear b2 c2 d2
            go_wp2_with fail
            go_ret2
            refine ⟨_, _, rfl, by rw [HW2.out]; exact .inl ⟨rfl, rfl⟩, HB2.out, .inr ⟨by rw [HW2.out], w.heap.size + 1, w.heap.size, rfl, by omega, Nat.le_refl _, ⟨?_, HC2.out⟩⟩⟩
            rw [HN.out, HHs.out]; exact HD2.out
end Go.Proofs.YtajnfkmkombajacGreatDoor
