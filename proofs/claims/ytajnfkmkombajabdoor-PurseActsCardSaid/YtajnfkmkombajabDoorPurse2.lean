/- Contracts of package purse: Burn, Out, In, Move. -/
import Derived.Test.YtajnfkmkombajabDoorPurse
set_option linter.unusedVariables false
set_option linter.unusedSimpArgs false
namespace Go.Proofs.YtajnfkmkombajabDoor
open Go.RowKit

theorem purse_Burn (A : Nat → Addr) (S : List Nat) (b : Nat) (p : PS) (n : Int) (w : World) (hE : Errs A S w) (h2 : 2 ∈ S) (h6 : 6 ∈ S) (hp : PurseAt b p w) :
    Calls Tryd.prog 33 #[.pointer (some ⟨b, 0, none⟩), .int .i64 n] w fun e w' => e = .returned (ev A (p.burnOp n).1) ∧ PurseP b (p.burnOp n).2 w w' := by
  have g2 : w.cell? ⟨0, 0, none⟩ = some (.iface 273 (.pointer (some (A 2)))) := hE.cell 2 h2
  have g6 : w.cell? ⟨3, 0, none⟩ = some (.iface 273 (.pointer (some (A 6)))) := hE.cell 6 h6
  clear hE
  have hs := hp.supply
  have hy := hp.sum
  have f2 := hp.frozen 7
  have b2 := hp.ok.le
  have b3 := hp.ok.most
  have b4 := hp.ok.sum_bd
  by_cases hn : amtB n = true
  · obtain ⟨n0, n1⟩ := amtB_iff.1 hn
    by_cases hm : p.supply - p.sum < n
    · have E1 := Lib.hid (show p.burnOp n = (6, p) by unfold PS.burnOp; rw [if_neg (by rw [hn]; decide), if_pos hm])
      have HP := Lib.hid hp
      clear hp
      generalize p.supply = z at *
      generalize p.sum = y at *
      go_enter Tryd.func33, Tryd.ntmps33
      go_wp2_with (go_at_call 117; refine (part_Amount _ _).mono ?_; rintro e w' ⟨rfl, rfl⟩)
      go_quiet (fail)
      go_wp2
      go_ret
      exact ⟨by rw [E1.out]; rfl, by rw [E1.out]; exact ⟨(Keep.refl _ _).drewN _, HP.out.drewN _⟩⟩
    · have e1 : p.burnOp n = (0, p.grow (-n)) := by unfold PS.burnOp; rw [if_neg (by rw [hn]; decide), if_neg hm]
      have hok : (p.grow (-n)).Ok := by have := PS.burnOp_ok hp.ok n; rw [e1] at this; exact this
      have hset := hp.setSupply (-n) hok
      rw [show p.supply + -n = p.supply - n by omega] at hset
      have HF := Lib.hid hset
      have E1 := Lib.hid e1
      clear e1 hp hset
      generalize p.supply = z at *
      generalize p.sum = y at *
      go_enter Tryd.func33, Tryd.ntmps33
      go_wp2_with (go_at_call 117; refine (part_Amount _ _).mono ?_; rintro e w' ⟨rfl, rfl⟩)
      go_quiet (fail)
      go_wp2
      go_ret
      exact ⟨by rw [E1.out]; rfl, by rw [E1.out]; exact ⟨((Keep.refl _ _).put _).drewN _, HF.out.drewN _⟩⟩
  · have hn' : amtB n = false := by simpa using hn
    have E1 := Lib.hid (show p.burnOp n = (2, p) by unfold PS.burnOp; rw [if_pos hn'])
    have HP := Lib.hid hp
    clear hp hn
    go_enter Tryd.func33, Tryd.ntmps33
    go_wp2_with (go_at_call 117; refine (part_Amount _ _).mono ?_; rintro e w' ⟨rfl, rfl⟩)
    go_ret
    exact ⟨by rw [E1.out]; rfl, by rw [E1.out]; exact PurseP.refl HP.out⟩

theorem lookC_two {o n : Int} (h : lookC o n ≠ 0) : lookC o n = 2 := by unfold lookC at h ⊢; split at h <;> simp_all

theorem purse_Out (A : Nat → Addr) (S : List Nat) (b : Nat) (p : PS) (o n : Int) (w : World) (hE : Errs A S w) (h2 : 2 ∈ S) (h6 : 6 ∈ S) (hp : PurseAt b p w) :
    Calls Tryd.prog 29 #[.pointer (some ⟨b, 0, none⟩), .int .i64 o, .int .i64 n] w fun e w' => e = .returned (ev A (p.outOp o n).1) ∧ PurseP b (p.outOp o n).2 w w' := by
  have g6 : w.cell? ⟨3, 0, none⟩ = some (.iface 273 (.pointer (some (A 6)))) := hE.cell 6 h6
  have HE := Lib.hid hE; clear hE
  by_cases hl : lookC o n = 0
  · obtain ⟨ho, hn0, hn1⟩ := lookC_zero.1 hl
    have el : ev A (lookC o n) = .nilIface := by rw [hl]; rfl
    obtain ⟨h0, h1⟩ := ownB_iff.1 ho
    obtain ⟨k, rfl⟩ := Int.eq_ofNat_of_zero_le h0
    have hk : k < 6 := by omega
    have hc := hp.has hk
    have b1 := hp.ok.at_bd k
    have b2 := hp.ok.le
    have b3 := hp.ok.most
    by_cases hm : p.at k < n
    · have E1 := Lib.hid (show p.outOp k n = (6, p) by unfold PS.outOp; rw [if_neg (by rw [hl]; decide), if_pos hm])
      have HP := Lib.hid hp
      clear hp hl ho
      generalize p.at k = x at *
      go_enter Tryd.func29, Tryd.ntmps29
      go_wp2_with fail
      refine (purse_look A S _ _ _ HE.out h2).mono ?_
      rintro e w' ⟨rfl, rfl⟩
      rw [el]
      go_wp2_with fail
      go_ret
      exact ⟨by rw [E1.out]; rfl, by rw [E1.out]; exact PurseP.refl HP.out⟩
    · have E1 := Lib.hid (show p.outOp k n = (0, p.change k (-n)) by unfold PS.outOp; rw [if_neg (by rw [hl]; decide), if_neg hm])
      have c1 : 0 ≤ p.at k + -n := by omega
      have c2 : p.sum + -n ≤ p.supply := by omega
      have HP := Lib.hid hp
      have HC := Lib.hid (fun w => fun hw => purse_change b p k (-n) w hw ho c1 c2)
      clear hp hl ho c1
      generalize p.at k = x at *
      go_enter Tryd.func29, Tryd.ntmps29
      go_wp2_with fail
      refine (purse_look A S _ _ _ HE.out h2).mono ?_
      rintro e w' ⟨rfl, rfl⟩
      rw [el]
      go_wp2_with fail
      refine (HC.out _ HP.out).mono ?_
      rintro e w2 ⟨rfl, k2⟩
      go_wp2
      go_ret
      exact ⟨by rw [E1.out]; rfl, by rw [E1.out]; exact k2⟩
  · have hl2 := lookC_two hl
    have E1 := Lib.hid (show p.outOp o n = (2, p) by unfold PS.outOp; rw [if_pos hl])
    have el : ev A (lookC o n) = .iface 273 (.pointer (some (A 2))) := by rw [hl2]; rfl
    have HP := Lib.hid hp
    clear hl hl2 hp
    go_enter Tryd.func29, Tryd.ntmps29
    go_wp2_with fail
    refine (purse_look A S _ _ _ HE.out h2).mono ?_
    rintro e w' ⟨rfl, rfl⟩
    rw [el]
    go_wp2
    go_ret
    exact ⟨by rw [E1.out]; rfl, by rw [E1.out]; exact PurseP.refl HP.out⟩

theorem purse_In (A : Nat → Addr) (S : List Nat) (b : Nat) (p : PS) (o n : Int) (w : World) (hE : Errs A S w) (h2 : 2 ∈ S) (h6 : 6 ∈ S) (hp : PurseAt b p w) :
    Calls Tryd.prog 31 #[.pointer (some ⟨b, 0, none⟩), .int .i64 o, .int .i64 n] w fun e w' => e = .returned (ev A (p.inOp o n).1) ∧ PurseP b (p.inOp o n).2 w w' := by
  have g6 : w.cell? ⟨3, 0, none⟩ = some (.iface 273 (.pointer (some (A 6)))) := hE.cell 6 h6
  have HE := Lib.hid hE; clear hE
  by_cases hl : lookC o n = 0
  · obtain ⟨ho, hn0, hn1⟩ := lookC_zero.1 hl
    have el : ev A (lookC o n) = .nilIface := by rw [hl]; rfl
    have hs := hp.supply
    have hy := hp.sum
    have b1 := hp.ok.at_bd o
    have b2 := hp.ok.le
    have b3 := hp.ok.most
    have b4 := hp.ok.sum_bd
    by_cases hm : p.supply - p.sum < n
    · have E1 := Lib.hid (show p.inOp o n = (6, p) by unfold PS.inOp; rw [if_neg (by rw [hl]; decide), if_pos hm])
      have HP := Lib.hid hp
      clear hp hl ho b1
      generalize p.supply = z at *
      generalize p.sum = y at *
      go_enter Tryd.func31, Tryd.ntmps31
      go_wp2_with fail
      refine (purse_look A S _ _ _ HE.out h2).mono ?_
      rintro e w' ⟨rfl, rfl⟩
      rw [el]
      go_wp2_with fail
      go_quiet (fail)
      go_wp2
      go_ret
      exact ⟨by rw [E1.out]; rfl, by rw [E1.out]; exact ⟨(Keep.refl _ _).drewN _, HP.out.drewN _⟩⟩
    · have E1 := Lib.hid (show p.inOp o n = (0, p.change o n) by unfold PS.inOp; rw [if_neg (by rw [hl]; decide), if_neg hm])
      have c1 : 0 ≤ p.at o + n := by omega
      have c2 : p.sum + n ≤ p.supply := by omega
      have HP := Lib.hid hp
      have HC := Lib.hid (fun w => fun hw => purse_change b p o n w hw ho c1 c2)
      clear hp hl ho c1 b1
      generalize p.supply = z at *
      generalize p.sum = y at *
      go_enter Tryd.func31, Tryd.ntmps31
      go_wp2_with fail
      refine (purse_look A S _ _ _ HE.out h2).mono ?_
      rintro e w' ⟨rfl, rfl⟩
      rw [el]
      go_wp2_with fail
      go_quiet (fail)
      go_wp2_with fail
      refine (HC.out _ (HP.out.drewN _)).mono ?_
      rintro e w2 ⟨rfl, k2⟩
      go_wp2
      go_ret
      exact ⟨by rw [E1.out]; rfl, by rw [E1.out]; exact ⟨((Keep.refl _ _).drewN _).trans k2.1, k2.2⟩⟩
  · have hl2 := lookC_two hl
    have E1 := Lib.hid (show p.inOp o n = (2, p) by unfold PS.inOp; rw [if_pos hl])
    have el : ev A (lookC o n) = .iface 273 (.pointer (some (A 2))) := by rw [hl2]; rfl
    have HP := Lib.hid hp
    clear hl hl2 hp
    go_enter Tryd.func31, Tryd.ntmps31
    go_wp2_with fail
    refine (purse_look A S _ _ _ HE.out h2).mono ?_
    rintro e w' ⟨rfl, rfl⟩
    rw [el]
    go_wp2
    go_ret
    exact ⟨by rw [E1.out]; rfl, by rw [E1.out]; exact PurseP.refl HP.out⟩

theorem outOp_c {p : PS} {o n : Int} : (p.outOp o n).1 = 0 ∨ (p.outOp o n).1 = 2 ∨ (p.outOp o n).1 = 6 := by
  unfold PS.outOp; split
  · simp
  · split <;> simp
theorem ev_ne {A : Nat → Addr} {c : Nat} (h : c ≠ 0) : ev A c = .iface 273 (.pointer (some (A c))) := if_neg h

/-- the errors' variables do not lie in block b -/
def Far (S : List Nat) (b : Nat) : Prop := ∀ c, c ∈ S → gE c ≠ b
theorem Errs.pp {A : Nat → Addr} {S : List Nat} {b : Nat} {p : PS} {w w' : World} (h : Errs A S w) (hf : Far S b) (k : PurseP b p w w') : Errs A S w' := h.keep k.1 hf

theorem purse_Move (A : Nat → Addr) (S : List Nat) (b : Nat) (p : PS) (x y n : Int) (w : World) (hE : Errs A S w) (h2 : 2 ∈ S) (h6 : 6 ∈ S) (hf : Far S b) (hp : PurseAt b p w) :
    Calls Tryd.prog 37 #[.pointer (some ⟨b, 0, none⟩), .int .i64 x, .int .i64 y, .int .i64 n] w fun e w' => e = .returned (ev A (p.moveOp x y n).1) ∧ PurseP b (p.moveOp x y n).2 w w' := by
  have HE := Lib.hid hE; clear hE
  by_cases hl : lookC y n = 0
  · have el : ev A (lookC y n) = .nilIface := by rw [hl]; rfl
    by_cases ho : (p.outOp x n).1 = 0
    · have E1 := Lib.hid (show p.moveOp x y n = (p.outOp x n).2.inOp y n by unfold PS.moveOp; rw [hl, ho]; rfl)
      have eo : ev A (p.outOp x n).1 = .nilIface := by rw [ho]; rfl
      have HP := Lib.hid hp
      clear hp hl ho
      go_enter Tryd.func37, Tryd.ntmps37
      go_wp2_with fail
      refine (purse_look A S _ _ _ HE.out h2).mono ?_
      rintro e w' ⟨rfl, rfl⟩
      rw [el]
      go_wp2_with fail
      refine (purse_Out A S b p x n _ HE.out h2 h6 HP.out).mono ?_
      rintro e w1 ⟨rfl, k1⟩
      rw [eo]
      have K1 := Lib.hid k1; clear k1
      go_wp2_with fail
      refine (purse_In A S b _ y n _ (HE.out.pp hf K1.out) h2 h6 K1.out.2).mono ?_
      rintro e w2 ⟨rfl, k2⟩
      have K2 := Lib.hid k2; clear k2
      go_wp2
      go_ret
      exact ⟨by rw [E1.out]; rfl, by rw [E1.out]; exact K1.out.trans K2.out⟩
    · have E1 := Lib.hid (show p.moveOp x y n = p.outOp x n by unfold PS.moveOp; rw [if_neg (by rw [hl]; decide), if_pos ho])
      have eo : ev A (p.outOp x n).1 = .iface 273 (.pointer (some (A (p.outOp x n).1))) := ev_ne ho
      have HP := Lib.hid hp
      clear hp hl ho
      go_enter Tryd.func37, Tryd.ntmps37
      go_wp2_with fail
      refine (purse_look A S _ _ _ HE.out h2).mono ?_
      rintro e w' ⟨rfl, rfl⟩
      rw [el]
      go_wp2_with fail
      refine (purse_Out A S b p x n _ HE.out h2 h6 HP.out).mono ?_
      rintro e w1 ⟨rfl, k1⟩
      rw [eo]
      have K1 := Lib.hid k1; have EO := Lib.hid eo; clear k1 eo
      go_wp2
      go_ret
      exact ⟨by rw [E1.out, EO.out]; rfl, by rw [E1.out]; exact K1.out⟩
  · have hl2 := lookC_two hl
    have E1 := Lib.hid (show p.moveOp x y n = (2, p) by unfold PS.moveOp; rw [if_pos hl])
    have el : ev A (lookC y n) = .iface 273 (.pointer (some (A 2))) := by rw [hl2]; rfl
    have HP := Lib.hid hp
    clear hl hl2 hp
    go_enter Tryd.func37, Tryd.ntmps37
    go_wp2_with fail
    refine (purse_look A S _ _ _ HE.out h2).mono ?_
    rintro e w' ⟨rfl, rfl⟩
    rw [el]
    go_wp2
    go_ret
    exact ⟨by rw [E1.out]; rfl, by rw [E1.out]; exact PurseP.refl HP.out⟩
end Go.Proofs.YtajnfkmkombajabDoor
