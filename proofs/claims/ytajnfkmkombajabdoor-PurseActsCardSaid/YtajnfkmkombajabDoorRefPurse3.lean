/- Contract of the document's purse: Move. -/
import Derived.Test.YtajnfkmkombajabDoorRefPurse2
set_option linter.unusedVariables false
set_option linter.unusedSimpArgs false
namespace Go.Proofs.YtajnfkmkombajabDoor
open Go.RowKit

theorem PS.moveOp_short {p : PS} {a b n : Int} (h1 : lookC b n = 0) (h2 : lookC a n = 0) (h : p.at a < n) : p.moveOp a b n = (6, p) := by
  have : p.outOp a n = (6, p) := by unfold PS.outOp; rw [h2, if_neg (by simp), if_pos h]
  unfold PS.moveOp; rw [h1, this]; rfl
theorem PS.moveOp_in {p : PS} (hp : p.Ok) {a b n : Int} (h1 : lookC b n = 0) (h2 : lookC a n = 0) (h : ¬ p.at a < n) : p.moveOp a b n = (0, (p.change a (-n)).change b n) := by
  have h3 : p.outOp a n = (0, p.change a (-n)) := by unfold PS.outOp; rw [h2, if_neg (by simp), if_neg h]
  have h4 : (p.change a (-n)).inOp b n = (0, (p.change a (-n)).change b n) := by
    unfold PS.inOp; rw [h1, if_neg (by simp), if_neg]
    have := hp.le
    simp only [PS.change]; omega
  unfold PS.moveOp; rw [h1, h3]; exact h4

set_option maxHeartbeats 400000 in
theorem refp_Move (b hb : Nat) (p : PS) (o t n : Int) (w : World) (h : RPurseAt b hb p w) :
    Calls Tryd.prog 38 #[.pointer (some ⟨b, 0, none⟩), .int .i64 o, .int .i64 t, .int .i64 n] w fun e w' => e = .returned (.int .i64 (p.moveOp o t n).1) ∧ RPurseP b hb (p.moveOp o t n).2 w w' := by
  have hz0 : ((0 : Int) == 0) = true := rfl
  by_cases ht : lookC t n = 0
  · by_cases hl : lookC o n = 0
    · obtain ⟨ho, hn0, hn1⟩ := lookC_zero.1 hl
      obtain ⟨ho', -, -⟩ := lookC_zero.1 ht
      have HT := Lib.hid ht
      have HL := Lib.hid hl
      have b2 := h.ok.le; have b3 := h.ok.most; have b4 := h.ok.sum_bd
      obtain ⟨h0, h6⟩ := ownB_iff.1 ho
      obtain ⟨k, rfl⟩ := Int.eq_ofNat_of_zero_le h0
      have hk : k < 6 := by omega
      obtain ⟨h0', h6'⟩ := ownB_iff.1 ho'
      obtain ⟨j, rfl⟩ := Int.eq_ofNat_of_zero_le h0'
      have hj : j < 6 := by omega
      have hc0 := h.c0
      have hck := h.hc hk
      have bk := h.ok.at_bd (k : Int)
      by_cases hm : p.at k < n
      · have HM := Lib.hid (PS.moveOp_short ht hl hm); have H := Lib.hid h
        have hd : decide (p.at k < n) = true := decide_eq_true hm
        clear ht hl ho ho' h h0 h6 h0' h6'
        generalize hx : p.at (k : Int) = x at *
        clear hx hm
        go_enter Tryd.func38, Tryd.ntmps38
        go_wp2_with fail
        refine (refp_Error_yes _ _ _ _ HT.out).mono ?_
        rintro e w' ⟨rfl, rfl⟩
        go_wp2_with fail
        refine (refp_Error_yes _ _ _ _ HL.out).mono ?_
        rintro e w' ⟨rfl, rfl⟩
        go_wp2_with fail
        go_ret
        rw [HM.out]
        exact ⟨rfl, RPurseP.refl H.out⟩
      · have HM := Lib.hid (PS.moveOp_in h.ok ht hl hm)
        have fk := h.has.frozen k
        have hok := h.ok.change (o := k) (n := -n) ho (by omega) (by omega)
        have hfin := h.setHas (k := k) (-n) hok
        rw [show p.at k + -n = p.at k - n from (Int.sub_eq_add_neg).symm] at hfin
        have K1 : Keep (Two b hb) w (w.setCell ⟨hb, k, none⟩ (.int .i64 (p.at k - n))) := (Keep.refl _ _).putH
        have hok2 := hok.change (o := j) (n := n) ho' (by have := (hok.at_bd (j : Int)).1; omega) (by simp only [PS.change]; omega)
        have HK1 := Lib.hid K1
        have HO2 := Lib.hid hok2
        have HF1 := Lib.hid hfin
        have hd : decide (p.at k < n) = false := decide_eq_false hm
        clear ht hl ho ho' h h0 h6 h0' h6' K1 hok2 hfin
        generalize hq : p.change (k : Int) (-n) = q at *
        have bq := hok.at_bd (j : Int)
        have hqs : q.sum ≤ 1125899906842624 := by have := hok.le; have := hok.most; omega
        clear hq hok
        generalize hx : p.at (k : Int) = x at *
        clear hx
        go_enter Tryd.func38, Tryd.ntmps38
        go_wp2_with fail
        refine (refp_Error_yes _ _ _ _ HT.out).mono ?_
        rintro e w' ⟨rfl, rfl⟩
        go_wp2_with fail
        refine (refp_Error_yes _ _ _ _ HL.out).mono ?_
        rintro e w' ⟨rfl, rfl⟩
        go_wp2_with fail
        go_region
        generalize w.setCell ⟨hb, k, none⟩ (.int .i64 (x - n)) = w1 at *
        clear hc0 hck fk
        have hc0 := HF1.out.c0
        have hcj := HF1.out.hc hj
        have fj := HF1.out.has.frozen j
        have HF2 := Lib.hid (HF1.out.setHas (k := j) n HO2.out)
        have HK2 := Lib.hid (show Keep (Two b hb) w (w1.setCell ⟨hb, j, none⟩ (.int .i64 (q.at j + n))) from HK1.out.putH)
        generalize q.at (j : Int) = y at *
        go_wp2_with fail
        go_region
        go_wp2_with fail
        go_ret
        rw [HM.out]
        exact ⟨rfl, HK2.out.drew.drew, (HF2.out.drewN 1).drewN 1⟩
    · have hmo : p.moveOp o t n = (2, p) := by
        have : p.outOp o n = (2, p) := by unfold PS.outOp; rw [if_pos hl]
        unfold PS.moveOp; rw [ht, this]; rfl
      have HM := Lib.hid hmo; have H := Lib.hid h; have HL := Lib.hid hl; have HT := Lib.hid ht
      clear hl ht hmo h
      go_enter Tryd.func38, Tryd.ntmps38
      go_wp2_with fail
      refine (refp_Error_yes _ _ _ _ HT.out).mono ?_
      rintro e w' ⟨rfl, rfl⟩
      go_wp2_with fail
      refine (refp_Error_no _ _ _ _ HL.out).mono ?_
      rintro e w' ⟨rfl, rfl⟩
      go_wp2_with fail
      go_ret
      rw [HM.out]
      exact ⟨rfl, RPurseP.refl H.out⟩
  · have hmo : p.moveOp o t n = (2, p) := by unfold PS.moveOp; rw [if_pos ht]
    have HM := Lib.hid hmo; have H := Lib.hid h; have HT := Lib.hid ht
    clear ht hmo h
    go_enter Tryd.func38, Tryd.ntmps38
    go_wp2_with fail
    refine (refp_Error_no _ _ _ _ HT.out).mono ?_
    rintro e w' ⟨rfl, rfl⟩
    go_wp2_with fail
    go_ret
    rw [HM.out]
    exact ⟨rfl, RPurseP.refl H.out⟩
end Go.Proofs.YtajnfkmkombajabDoor
