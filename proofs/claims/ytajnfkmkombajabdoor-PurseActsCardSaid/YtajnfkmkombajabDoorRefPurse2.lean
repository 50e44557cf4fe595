/- Contracts of the document's purse: Burn, In, Move. -/
import Derived.Test.YtajnfkmkombajabDoorRefPurse
import Derived.Deep.RegionWith
import Derived.BigQuiet
set_option linter.unusedVariables false
set_option linter.unusedSimpArgs false
namespace Go.Proofs.YtajnfkmkombajabDoor
open Go.RowKit

set_option maxHeartbeats 400000 in
theorem refp_Burn (b hb : Nat) (p : PS) (n : Int) (w : World) (h : RPurseAt b hb p w) :
    Calls Tryd.prog 34 #[.pointer (some ⟨b, 0, none⟩), .int .i64 n] w fun e w' => e = .returned (.int .i64 (p.burnOp n).1) ∧ RPurseP b hb (p.burnOp n).2 w w' := by
  by_cases hn : amtB n = true
  · obtain ⟨n0, n1⟩ := amtB_iff.1 hn
    have hc1 := h.c1
    have b2 := h.ok.le; have b3 := h.ok.most; have b4 := h.ok.sum_bd
    have HN := Lib.hid hn
    have H := Lib.hid h
    by_cases hm : p.supply - p.sum < n
    · have hg : p.burnOp n = (6, p) := by unfold PS.burnOp; rw [if_neg (by simp [hn]), if_pos hm]
      have HM := Lib.hid hg
      have hd : decide (p.supply - p.sum < n) = true := decide_eq_true hm
      have hS := Lib.hid (refp_Sum b hb p)
      clear hg h hn hm
      generalize p.supply = y at *
      generalize p.sum = z at *
      go_enter Tryd.func34, Tryd.ntmps34
      go_wp2_with fail
      refine (refb_IsAmount _ _).mono ?_
      rw [HN.out]
      rintro e w' ⟨rfl, rfl⟩
      go_wp2_with fail
      go_quiet ((go_at_call 40; exact Calls.quiet_of_same ((hS.out _ (H.out.drewN _)).mono fun _ _ ⟨a, b⟩ => ⟨a, b.symm⟩)))
      go_wp2_with fail
      go_ret
      rw [HM.out]
      exact ⟨rfl, (Keep.refl _ _).drewN _, H.out.drewN _⟩
    · have hg : p.burnOp n = (0, p.grow (-n)) := by unfold PS.burnOp; rw [if_neg (by simp [hn]), if_neg hm]
      have f1 := h.row.frozen 1
      have hok := h.ok.grow (n := -n) (by omega) (by omega)
      have hfin := h.setSupply (-n) hok
      rw [show p.supply + -n = p.supply - n from (Int.sub_eq_add_neg).symm] at hfin
      have HF := Lib.hid hfin; have HM := Lib.hid hg
      have HK := Lib.hid (show Keep (Two b hb) w (w.setCell ⟨b, 1, none⟩ (.int .i64 (p.supply - n))) from (Keep.refl _ _).putS)
      have hd : decide (p.supply - p.sum < n) = false := decide_eq_false hm
      have hS := Lib.hid (refp_Sum b hb p)
      clear hg h hn hok hfin
      generalize p.supply = y at *
      generalize p.sum = z at *
      go_enter Tryd.func34, Tryd.ntmps34
      go_wp2_with fail
      refine (refb_IsAmount _ _).mono ?_
      rw [HN.out]
      rintro e w' ⟨rfl, rfl⟩
      go_wp2_with fail
      go_quiet ((go_at_call 40; exact Calls.quiet_of_same ((hS.out _ (H.out.drewN _)).mono fun _ _ ⟨a, b⟩ => ⟨a, b.symm⟩)))
      go_wp2_with fail
      go_ret
      rw [HM.out]
      exact ⟨rfl, HK.out.drewN _, HF.out.drewN _⟩
  · have hn' : amtB n = false := by simpa using hn
    have hg : p.burnOp n = (2, p) := by unfold PS.burnOp; rw [if_pos hn']
    have HM := Lib.hid hg; have H := Lib.hid h; have HN := Lib.hid hn'
    clear hg h hn hn'
    go_enter Tryd.func34, Tryd.ntmps34
    go_wp2_with fail
    refine (refb_IsAmount _ _).mono ?_
    rw [HN.out]
    rintro e w' ⟨rfl, rfl⟩
    go_wp2_with fail
    go_ret
    rw [HM.out]
    exact ⟨rfl, RPurseP.refl H.out⟩

set_option maxHeartbeats 400000 in
theorem refp_In (b hb : Nat) (p : PS) (o n : Int) (w : World) (h : RPurseAt b hb p w) :
    Calls Tryd.prog 32 #[.pointer (some ⟨b, 0, none⟩), .int .i64 o, .int .i64 n] w fun e w' => e = .returned (.int .i64 (p.inOp o n).1) ∧ RPurseP b hb (p.inOp o n).2 w w' := by
  by_cases hl : lookC o n = 0
  · obtain ⟨ho, hn0, hn1⟩ := lookC_zero.1 hl
    have HL := Lib.hid hl
    have b2 := h.ok.le; have b3 := h.ok.most; have b4 := h.ok.sum_bd
    obtain ⟨h0, h6⟩ := ownB_iff.1 ho
    obtain ⟨k, rfl⟩ := Int.eq_ofNat_of_zero_le h0
    have hk : k < 6 := by omega
    have hc0 := h.c0
    have hc1 := h.c1
    have H := Lib.hid h
    have hS := Lib.hid (refp_Sum b hb p)
    have hz0 : ((0 : Int) == 0) = true := rfl
    by_cases hm : p.supply - p.sum < n
    · have hmo : p.inOp k n = (6, p) := by unfold PS.inOp; rw [hl, if_neg (by simp), if_pos hm]
      have HM := Lib.hid hmo
      have hd : decide (p.supply - p.sum < n) = true := decide_eq_true hm
      clear hl ho hmo h h0 h6 hm
      generalize p.supply = y at *
      generalize p.sum = z at *
      go_enter Tryd.func32, Tryd.ntmps32
      go_wp2_with fail
      refine (refp_Error_yes _ _ _ _ HL.out).mono ?_
      rintro e w' ⟨rfl, rfl⟩
      go_wp2_with fail
      go_quiet ((go_at_call 40; exact Calls.quiet_of_same ((hS.out _ (H.out.drewN _)).mono fun _ _ ⟨a, b⟩ => ⟨a, b.symm⟩)))
      go_wp2_with fail
      go_ret
      rw [HM.out]
      exact ⟨rfl, (Keep.refl _ _).drewN _, H.out.drewN _⟩
    · have hmo : p.inOp k n = (0, p.change k n) := by unfold PS.inOp; rw [hl, if_neg (by simp), if_neg hm]
      have hck := h.hc hk
      have bk := h.ok.at_bd (k : Int)
      have fk := h.has.frozen k
      have hok := h.ok.change (o := k) (n := n) ho (by omega) (by omega)
      have HF := Lib.hid (h.setHas (k := k) n hok); have HM := Lib.hid hmo
      have HK := Lib.hid (show Keep (Two b hb) w (w.setCell ⟨hb, k, none⟩ (.int .i64 (p.at k + n))) from (Keep.refl _ _).putH)
      have hd : decide (p.supply - p.sum < n) = false := decide_eq_false hm
      clear hl ho hmo hok h h0 h6
      generalize p.at (k : Int) = x at *
      generalize p.supply = y at *
      generalize p.sum = z at *
      go_enter Tryd.func32, Tryd.ntmps32
      go_wp2_with fail
      refine (refp_Error_yes _ _ _ _ HL.out).mono ?_
      rintro e w' ⟨rfl, rfl⟩
      go_wp2_with fail
      go_quiet ((go_at_call 40; exact Calls.quiet_of_same ((hS.out _ (H.out.drewN _)).mono fun _ _ ⟨a, b⟩ => ⟨a, b.symm⟩)))
      go_wp2_with fail
      go_region
      go_wp2_with fail
      go_ret
      rw [HM.out]
      exact ⟨rfl, (HK.out.drewN _), HF.out.drewN _⟩
  · have hmo : p.inOp o n = (2, p) := by unfold PS.inOp; rw [if_pos hl]
    have HM := Lib.hid hmo; have H := Lib.hid h; have HL := Lib.hid hl
    clear hl hmo h
    go_enter Tryd.func32, Tryd.ntmps32
    go_wp2_with fail
    refine (refp_Error_no _ _ _ _ HL.out).mono ?_
    rintro e w' ⟨rfl, rfl⟩
    go_wp2_with fail
    go_quiet (fail)
    go_wp2_with fail
    go_ret
    rw [HM.out]
    exact ⟨rfl, (Keep.refl _ _).drewN _, H.out.drewN _⟩
end Go.Proofs.YtajnfkmkombajabDoor
