/- Contracts of the document's purse. -/
import Derived.Test.YtajnfkmkombajabDoorPurse
import Derived.Test.YtajnfkmkombajabDoorFillW
set_option linter.unusedVariables false
set_option linter.unusedSimpArgs false
namespace Go.Proofs.YtajnfkmkombajabDoor
open Go.RowKit

theorem refb_IsAmount (n : Int) (w : World) : Calls Tryd.prog 118 #[.int .i64 n] w fun e w' => e = .returned (.bool (amtB n)) ∧ w = w' := by
  by_cases h0 : n < 0
  · have H := Lib.hid (show amtB n = false by rw [amtB_false]; omega)
    go_enter Tryd.func118, Tryd.ntmps118
    go_wp2
    go_ret
    exact ⟨by rw [H.out]; rfl, rfl⟩
  · have h0' : 0 ≤ n := by omega
    have H := Lib.hid (show amtB n = decide (n ≤ 1125899906842624) by unfold amtB; simp [h0'])
    clear h0
    go_enter Tryd.func118, Tryd.ntmps118
    go_wp2
    go_ret
    exact ⟨by rw [H.out]; rfl, rfl⟩
theorem ref_IsOwner (o : Int) (w : World) : Calls Tryd.prog 113 #[.int .i64 o] w fun e w' => e = .returned (.bool (ownB o)) ∧ w = w' := by
  by_cases h0 : o < 0
  · have H := Lib.hid (show ownB o = false by rw [ownB_false]; omega)
    go_enter Tryd.func113, Tryd.ntmps113
    go_wp2
    go_ret
    exact ⟨by rw [H.out]; rfl, rfl⟩
  · have h0' : 0 ≤ o := by omega
    have H := Lib.hid (show ownB o = decide (o < 6) by unfold ownB; simp [h0'])
    clear h0
    go_enter Tryd.func113, Tryd.ntmps113
    go_wp2
    go_ret
    exact ⟨by rw [H.out]; rfl, rfl⟩
theorem refp_Error (p : Value) (o n : Int) (w : World) : Calls Tryd.prog 116 #[p, .int .i64 o, .int .i64 n] w fun e w' => e = .returned (.int .i64 (lookC o n)) ∧ w = w' := by
  have hcase : (ownB o = false ∧ lookC o n = 2) ∨ (ownB o = true ∧ amtB n = false ∧ lookC o n = 2) ∨ (ownB o = true ∧ amtB n = true ∧ lookC o n = 0) := by
    unfold lookC; cases ownB o <;> cases amtB n <;> simp
  rcases hcase with ⟨h1, h⟩ | ⟨h1, h2, h⟩ | ⟨h1, h2, h⟩
  all_goals
    have H := Lib.hid h; clear h
    go_enter Tryd.func116, Tryd.ntmps116
    go_wp2_with (first | (go_at_call 113; refine (ref_IsOwner _ _).mono ?_; rintro e w' ⟨rfl, rfl⟩) | (go_at_call 118; refine (refb_IsAmount _ _).mono ?_; rintro e w' ⟨rfl, rfl⟩))
    go_ret
    exact ⟨by rw [H.out]; rfl, rfl⟩

/-- blocks b and hb are a purse of the document's that holds p -/
structure RPurseAt (b hb : Nat) (p : PS) (w : World) : Prop where
  ok : p.Ok
  row : RowAt b 65 [.slice (some ⟨hb, 0, none⟩) 6 6, .int .i64 p.supply] w
  has : RowAt hb 3 (p.has.map (Value.int .i64)) w
  ne : b ≠ hb
def Two (b hb : Nat) : Nat → Prop := fun k => k = b ∨ k = hb
theorem RPurseAt.keep {F : Nat → Prop} {b hb : Nat} {p : PS} {w w' : World} (h : RPurseAt b hb p w) (k : Keep F w w') (h1 : ¬ F b) (h2 : ¬ F hb) : RPurseAt b hb p w' := ⟨h.ok, h.row.keep k h1, h.has.keep k h2, h.ne⟩
theorem RPurseAt.drewN {b hb : Nat} {p : PS} {w : World} (h : RPurseAt b hb p w) (n : Nat) : RPurseAt b hb p (w.drewN n) := ⟨h.ok, h.row, h.has, h.ne⟩
theorem RPurseAt.c0 {b hb : Nat} {p : PS} {w : World} (h : RPurseAt b hb p w) : w.cell? ⟨b, 0, none⟩ = some (.slice (some ⟨hb, 0, none⟩) 6 6) := by rw [h.row.cell]; rfl
theorem RPurseAt.c1 {b hb : Nat} {p : PS} {w : World} (h : RPurseAt b hb p w) : w.cell? ⟨b, 1, none⟩ = some (.int .i64 p.supply) := by rw [h.row.cell]; rfl
theorem RPurseAt.hc {b hb : Nat} {p : PS} {w : World} (h : RPurseAt b hb p w) {k : Nat} (hk : k < 6) : w.cell? ⟨hb, k, none⟩ = some (.int .i64 (p.at k)) := by
  rw [h.has.cell, List.getElem?_map, List.getElem?_eq_getElem (by rw [h.ok.six]; exact hk)]
  simp [PS.at, h.ok.six, hk]
theorem RPurseAt.setHas {b hb : Nat} {p : PS} {w : World} (h : RPurseAt b hb p w) {k : Nat} (n : Int) (hok : (p.change k n).Ok) : RPurseAt b hb (p.change k n) (w.setCell ⟨hb, k, none⟩ (.int .i64 (p.at k + n))) := by
  refine ⟨hok, h.row.set_other (by simp only; exact fun e => h.ne e.symm) _, ?_, h.ne⟩
  have := h.has.set k (.int .i64 (p.at k + n))
  rw [← List.map_set] at this
  simpa [PS.change] using this
theorem RPurseAt.setSupply {b hb : Nat} {p : PS} {w : World} (h : RPurseAt b hb p w) (n : Int) (hok : (p.grow n).Ok) : RPurseAt b hb (p.grow n) (w.setCell ⟨b, 1, none⟩ (.int .i64 (p.supply + n))) :=
  ⟨hok, h.row.set 1 _, h.has.set_other (by simp only; exact fun e => h.ne e) _, h.ne⟩
def RPurseP (b hb : Nat) (p : PS) (w w' : World) : Prop := Keep (Two b hb) w w' ∧ RPurseAt b hb p w'
theorem RPurseP.refl {b hb : Nat} {p : PS} {w : World} (h : RPurseAt b hb p w) : RPurseP b hb p w w := ⟨Keep.refl _ _, h⟩

theorem refp_New (w : World) : Calls Tryd.prog 25 #[] w fun e w' => ∃ b hb, e = .returned (.pointer (some ⟨b, 0, none⟩)) ∧ Below w.heap.size w w' ∧ w.heap.size ≤ b ∧ w.heap.size ≤ hb ∧ RPurseAt b hb PS.new w' := by
  have hmk : ∀ w, (Instr.makeSlice 51 (.int .i64 6) (.int .i64 6)).run Tryd.prog w = .ok (.slice (some ⟨w.heap.size, 0, none⟩) 6 6) (w.alloc (.cells #[.int .i64 0, .int .i64 0, .int .i64 0, .int .i64 0, .int .i64 0, .int .i64 0] 3)) := fun _ => by kernel_rfl
  go_enter Tryd.func25, Tryd.ntmps25
  go_wp2
  go_ret
  refine ⟨w.heap.size + 1, w.heap.size, rfl, ((Below.refl _ _).alloc (Nat.le_refl _) _).alloc (by simp) _, by omega, Nat.le_refl _, PS.new_ok, ?_, ?_, by omega⟩
  · have := RowAt.new (w.alloc (.cells #[.int .i64 0, .int .i64 0, .int .i64 0, .int .i64 0, .int .i64 0, .int .i64 0] 3)) 65 [.slice (some ⟨w.heap.size, 0, none⟩) 6 6, .int .i64 0]
    have hs : (w.alloc (.cells #[.int .i64 0, .int .i64 0, .int .i64 0, .int .i64 0, .int .i64 0, .int .i64 0] 3)).heap.size = w.heap.size + 1 := by simp
    rw [hs] at this
    exact this
  · exact (RowAt.new w 3 [.int .i64 0, .int .i64 0, .int .i64 0, .int .i64 0, .int .i64 0, .int .i64 0]).alloc _

theorem refp_Sum (b hb : Nat) (p : PS) (w : World) (h : RPurseAt b hb p w) :
    Calls Tryd.prog 40 #[.pointer (some ⟨b, 0, none⟩)] w fun e w' => e = .returned (.int .i64 p.sum) ∧ w = w' := by
  have c0 := h.c0
  have H := Lib.hid h; clear h
  have hS := Lib.hid (show (p.has.take 6).sum = p.sum by rw [List.take_of_length_le (by rw [H.out.ok.six]; exact Nat.le_refl _)]; exact H.out.ok.sumIs)
  go_enter Tryd.func40, Tryd.ntmps40
  go_wp2_with fail
  go_loop [3, 4] (fun t i => ∃ j : Nat, j ≤ 6 ∧ i = .int .i64 j ∧ t = .int .i64 (p.has.take j).sum) (fun _ i => 6 - (intOf i).toNat)
  case atStart => exact ⟨0, by omega, rfl, rfl⟩
  case round =>
    obtain ⟨j, hj, rfl, rfl⟩ := hrel
    by_cases hj6 : j < 6
    · have c1 := H.out.hc hj6
      have hb1 := H.out.ok.at_bd (j : Int)
      have htn : (p.has.take (j + 1)).sum = (p.has.take j).sum + p.at (j : Int) := by
        rw [List.take_succ_eq_append_getElem (by rw [H.out.ok.six]; exact hj6), List.sum_append]
        simp [PS.at, H.out.ok.six, hj6]
      have hts : 0 ≤ (p.has.take j).sum ∧ (p.has.take j).sum + p.at (j : Int) ≤ 1125899906842624 := by
        have h1 := (sum_le_of_nonneg (l := p.has.take j) (fun x hx => H.out.ok.pos x (List.mem_of_mem_take hx)) 0).2.1
        have h2 := (sum_le_of_nonneg (l := p.has.drop (j + 1)) (fun x hx => H.out.ok.pos x (List.mem_of_mem_drop hx)) 0).2.1
        have h3 : p.has.sum = (p.has.take (j + 1)).sum + (p.has.drop (j + 1)).sum := by rw [← List.sum_append, List.take_append_drop]
        rw [htn] at h3
        have := H.out.ok.sumIs; have := H.out.ok.le; have := H.out.ok.most
        omega
      have HT := Lib.hid htn; clear htn
      generalize p.at (j : Int) = v at *
      generalize (p.has.take j).sum = t at *
      go_wp2_with fail
      go_round
      case rel => exact ⟨j + 1, by omega, by go_num, by rw [HT.out]⟩
      case measure => simp [intOf]; omega
    · obtain rfl : j = 6 := by omega
      rw [hS.out]
      go_wp2
      go_ret
      exact ⟨rfl, rfl⟩

theorem Keep.putH {b hb k : Nat} {a w : World} {u : Value} (h : Keep (Two b hb) a w) : Keep (Two b hb) a (w.setCell ⟨hb, k, none⟩ u) := h.setCell (p := ⟨hb, k, none⟩) (.inl (.inr rfl)) u
theorem Keep.putS {b hb k : Nat} {a w : World} {u : Value} (h : Keep (Two b hb) a w) : Keep (Two b hb) a (w.setCell ⟨b, k, none⟩ u) := h.setCell (p := ⟨b, k, none⟩) (.inl (.inl rfl)) u
theorem refp_Error_no (p : Value) (o n : Int) (w : World) (h : lookC o n ≠ 0) : Calls Tryd.prog 116 #[p, .int .i64 o, .int .i64 n] w fun e w' => e = .returned (.int .i64 2) ∧ w = w' := by
  have h2 : lookC o n = 2 := by unfold lookC at h ⊢; split at h <;> simp_all
  have := refp_Error p o n w
  rw [h2] at this; exact this
theorem refp_Error_yes (p : Value) (o n : Int) (w : World) (h : lookC o n = 0) : Calls Tryd.prog 116 #[p, .int .i64 o, .int .i64 n] w fun e w' => e = .returned (.int .i64 0) ∧ w = w' := by
  have := refp_Error p o n w
  rw [h] at this; exact this

set_option maxHeartbeats 400000 in
theorem refp_Mint (b hb : Nat) (p : PS) (o n : Int) (w : World) (h : RPurseAt b hb p w) :
    Calls Tryd.prog 28 #[.pointer (some ⟨b, 0, none⟩), .int .i64 o, .int .i64 n] w fun e w' => e = .returned (.int .i64 (p.mintOp o n).1) ∧ RPurseP b hb (p.mintOp o n).2 w w' := by
  by_cases hl : lookC o n = 0
  · obtain ⟨ho, hn0, hn1⟩ := lookC_zero.1 hl
    have HL := Lib.hid hl
    have hc1 := h.c1
    have b2 := h.ok.le; have b3 := h.ok.most; have b4 := h.ok.sum_bd
    by_cases hm : p.supply + n ≤ 1125899906842624
    · have hg : p.growOp n = (0, p.grow n) := by
        unfold PS.growOp; rw [if_pos]; simp only [Bool.and_eq_true, amtB_iff]; omega
      have hmo : p.mintOp o n = (0, (p.grow n).change o n) := by unfold PS.mintOp; rw [hl, hg]; rfl
      obtain ⟨h0, h6⟩ := ownB_iff.1 ho
      obtain ⟨k, rfl⟩ := Int.eq_ofNat_of_zero_le h0
      have hk : k < 6 := by omega
      have hc0 := h.c0
      have f1 := h.row.frozen 1
      have hck := h.hc hk
      have fk := h.has.frozen k
      have bk := h.ok.at_bd (k : Int)
      have hok := PS.mintOp_ok h.ok (k : Int) n
      rw [hmo] at hok
      have hfin : RPurseAt b hb ((p.grow n).change k n) ((w.setCell ⟨hb, k, none⟩ (.int .i64 (p.at k + n))).setCell ⟨b, 1, none⟩ (.int .i64 (p.supply + n))) := by
        refine ⟨hok, ?_, ?_, h.ne⟩
        · exact (h.row.set_other (p := ⟨hb, k, none⟩) (by simp only; exact fun e => h.ne e.symm) _).set 1 _
        · have := h.has.set k (.int .i64 (p.at k + n))
          rw [← List.map_set] at this
          exact RowAt.set_other this (p := ⟨b, 1, none⟩) (by simp only; exact fun e => h.ne e) _
      have HF := Lib.hid hfin; have HM := Lib.hid hmo
      have hne := h.ne
      have hkp : Keep (Two b hb) w ((w.setCell ⟨hb, k, none⟩ (.int .i64 (p.at k + n))).setCell ⟨b, 1, none⟩ (.int .i64 (p.supply + n))) := ((Keep.refl _ _).putH.putS)
      have HK := Lib.hid hkp
      clear hl ho hg hmo hok hfin h h0 h6 hkp
      have hz0 : ((0 : Int) == 0) = true := rfl
      generalize hx : p.at (k : Int) = x at *
      generalize hy : p.supply = y at *
      have hd : decide (1125899906842624 < y + n) = false := decide_eq_false (by omega)
      clear hx hy
      go_enter Tryd.func28, Tryd.ntmps28
      go_wp2_with fail
      refine (refp_Error_yes _ _ _ _ HL.out).mono ?_
      rintro e w' ⟨rfl, rfl⟩
      go_wp2_with fail
      go_region
      go_wp2_with fail
      go_ret
      rw [HM.out]
      exact ⟨rfl, HK.out.drew, HF.out.drewN 1⟩
    · have hmo : p.mintOp o n = (2, p) := by
        unfold PS.mintOp; rw [hl]
        have : (p.growOp n).1 = 2 := by unfold PS.growOp; rw [if_neg]; simp only [Bool.and_eq_true, amtB_iff]; omega
        rw [this]; rfl
      have HM := Lib.hid hmo; have H := Lib.hid h
      clear hl ho hmo h
      generalize hy : p.supply = y at *
      have hd : decide (1125899906842624 < y + n) = true := decide_eq_true (by omega)
      clear hy
      have hz0 : ((0 : Int) == 0) = true := rfl
      go_enter Tryd.func28, Tryd.ntmps28
      go_wp2_with fail
      refine (refp_Error_yes _ _ _ _ HL.out).mono ?_
      rintro e w' ⟨rfl, rfl⟩
      go_wp2_with fail
      go_ret
      rw [HM.out]
      exact ⟨rfl, RPurseP.refl H.out⟩
  · have hmo : p.mintOp o n = (2, p) := by unfold PS.mintOp; rw [if_pos hl]
    have HM := Lib.hid hmo; have H := Lib.hid h; have HL := Lib.hid hl
    clear hl hmo h
    go_enter Tryd.func28, Tryd.ntmps28
    go_wp2_with fail
    refine (refp_Error_no _ _ _ _ HL.out).mono ?_
    rintro e w' ⟨rfl, rfl⟩
    go_wp2_with fail
    go_ret
    rw [HM.out]
    exact ⟨rfl, RPurseP.refl H.out⟩
set_option maxHeartbeats 400000 in
theorem refp_Grow (b hb : Nat) (p : PS) (n : Int) (w : World) (h : RPurseAt b hb p w) :
    Calls Tryd.prog 36 #[.pointer (some ⟨b, 0, none⟩), .int .i64 n] w fun e w' => e = .returned (.int .i64 (p.growOp n).1) ∧ RPurseP b hb (p.growOp n).2 w w' := by
  by_cases hn : amtB n = true
  · obtain ⟨n0, n1⟩ := amtB_iff.1 hn
    have hc1 := h.c1
    have b2 := h.ok.le; have b3 := h.ok.most; have b4 := h.ok.sum_bd
    have HN := Lib.hid hn
    by_cases hm : p.supply + n ≤ 1125899906842624
    · have hg : p.growOp n = (0, p.grow n) := by
        unfold PS.growOp; rw [if_pos]; simp only [Bool.and_eq_true, amtB_iff]; omega
      have f1 := h.row.frozen 1
      have hok := PS.growOp_ok h.ok n
      rw [hg] at hok
      have HF := Lib.hid (h.setSupply n hok); have HM := Lib.hid hg
      have HK := Lib.hid (show Keep (Two b hb) w (w.setCell ⟨b, 1, none⟩ (.int .i64 (p.supply + n))) from (Keep.refl _ _).putS)
      clear hg hok h hn
      generalize hy : p.supply = y at *
      have hd : decide (1125899906842624 < y + n) = false := decide_eq_false (by omega)
      clear hy
      go_enter Tryd.func36, Tryd.ntmps36
      go_wp2_with fail
      refine (refb_IsAmount _ _).mono ?_
      rw [HN.out]
      rintro e w' ⟨rfl, rfl⟩
      go_wp2_with fail
      go_ret
      rw [HM.out]
      exact ⟨rfl, HK.out, HF.out⟩
    · have hg : p.growOp n = (2, p) := by
        unfold PS.growOp; rw [if_neg]; simp only [Bool.and_eq_true, amtB_iff]; omega
      have HM := Lib.hid hg; have H := Lib.hid h
      clear hg h hn
      generalize hy : p.supply = y at *
      have hd : decide (1125899906842624 < y + n) = true := decide_eq_true (by omega)
      clear hy
      go_enter Tryd.func36, Tryd.ntmps36
      go_wp2_with fail
      refine (refb_IsAmount _ _).mono ?_
      rw [HN.out]
      rintro e w' ⟨rfl, rfl⟩
      go_wp2_with fail
      go_ret
      rw [HM.out]
      exact ⟨rfl, RPurseP.refl H.out⟩
  · have hn' : amtB n = false := by simpa using hn
    have hg : p.growOp n = (2, p) := by unfold PS.growOp; rw [hn']; rfl
    have HM := Lib.hid hg; have H := Lib.hid h; have HN := Lib.hid hn'
    clear hg h hn hn'
    go_enter Tryd.func36, Tryd.ntmps36
    go_wp2_with fail
    refine (refb_IsAmount _ _).mono ?_
    rw [HN.out]
    rintro e w' ⟨rfl, rfl⟩
    go_wp2_with fail
    go_ret
    rw [HM.out]
    exact ⟨rfl, RPurseP.refl H.out⟩

set_option maxHeartbeats 400000 in
theorem refp_Out (b hb : Nat) (p : PS) (o n : Int) (w : World) (h : RPurseAt b hb p w) :
    Calls Tryd.prog 30 #[.pointer (some ⟨b, 0, none⟩), .int .i64 o, .int .i64 n] w fun e w' => e = .returned (.int .i64 (p.outOp o n).1) ∧ RPurseP b hb (p.outOp o n).2 w w' := by
  by_cases hl : lookC o n = 0
  · obtain ⟨ho, hn0, hn1⟩ := lookC_zero.1 hl
    have HL := Lib.hid hl
    have b2 := h.ok.le; have b3 := h.ok.most; have b4 := h.ok.sum_bd
    obtain ⟨h0, h6⟩ := ownB_iff.1 ho
    obtain ⟨k, rfl⟩ := Int.eq_ofNat_of_zero_le h0
    have hk : k < 6 := by omega
    have hc0 := h.c0
    have hck := h.hc hk
    have bk := h.ok.at_bd (k : Int)
    have hz0 : ((0 : Int) == 0) = true := rfl
    by_cases hm : p.at k < n
    · have hmo : p.outOp k n = (6, p) := by unfold PS.outOp; rw [hl, if_neg (by simp), if_pos hm]
      have HM := Lib.hid hmo; have H := Lib.hid h
      have hd : decide (p.at k < n) = true := decide_eq_true hm
      clear hl ho hmo h h0 h6
      generalize hx : p.at (k : Int) = x at *
      clear hx hm
      go_enter Tryd.func30, Tryd.ntmps30
      go_wp2_with fail
      refine (refp_Error_yes _ _ _ _ HL.out).mono ?_
      rintro e w' ⟨rfl, rfl⟩
      go_wp2_with fail
      go_ret
      rw [HM.out]
      exact ⟨rfl, RPurseP.refl H.out⟩
    · have hmo : p.outOp k n = (0, p.change k (-n)) := by unfold PS.outOp; rw [hl, if_neg (by simp), if_neg hm]
      have fk := h.has.frozen k
      have hok := h.ok.change (o := k) (n := -n) ho (by omega) (by omega)
      have hfin := h.setHas (k := k) (-n) hok
      rw [show p.at k + -n = p.at k - n from (Int.sub_eq_add_neg).symm] at hfin
      have HF := Lib.hid hfin; have HM := Lib.hid hmo
      have HK := Lib.hid (show Keep (Two b hb) w (w.setCell ⟨hb, k, none⟩ (.int .i64 (p.at k - n))) from (Keep.refl _ _).putH)
      have hd : decide (p.at k < n) = false := decide_eq_false hm
      clear hl ho hmo hok hfin h h0 h6
      generalize hx : p.at (k : Int) = x at *
      clear hx
      go_enter Tryd.func30, Tryd.ntmps30
      go_wp2_with fail
      refine (refp_Error_yes _ _ _ _ HL.out).mono ?_
      rintro e w' ⟨rfl, rfl⟩
      go_wp2_with fail
      go_region
      go_wp2_with fail
      go_ret
      rw [HM.out]
      exact ⟨rfl, HK.out.drew, HF.out.drewN 1⟩
  · have hmo : p.outOp o n = (2, p) := by unfold PS.outOp; rw [if_pos hl]
    have HM := Lib.hid hmo; have H := Lib.hid h; have HL := Lib.hid hl
    clear hl hmo h
    go_enter Tryd.func30, Tryd.ntmps30
    go_wp2_with fail
    refine (refp_Error_no _ _ _ _ HL.out).mono ?_
    rintro e w' ⟨rfl, rfl⟩
    go_wp2_with fail
    go_ret
    rw [HM.out]
    exact ⟨rfl, RPurseP.refl H.out⟩
end Go.Proofs.YtajnfkmkombajabDoor
