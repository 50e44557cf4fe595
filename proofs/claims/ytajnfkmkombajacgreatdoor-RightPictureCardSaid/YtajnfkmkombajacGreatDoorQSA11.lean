/-
  Contracts of the document's purse.
  Plain: the document's product, bit by bit. No program in sight.
  Contracts of the document's Product, DownOf, UpOf.
  Contracts of the document's pool: what it holds, All, Shares, Value.
-/
import Derived.Test.YtajnfkmkombajacGreatDoorQSA08
import Derived.Test.YtajnfkmkombajacGreatDoorQSA10
import Derived.Test.YtajnfkmkombajacGreatDoorQSA01
import Derived.Deep.RegionWith
import Derived.Test.YtajnfkmkombajacGreatDoorQSA07
set_option linter.unusedVariables false
set_option linter.unusedSimpArgs false
set_option linter.unusedVariables false
namespace Go.Proofs.YtajnfkmkombajacGreatDoor
open Go.RowKit

theorem refb_IsAmount (n : Int) (w : World) : Calls Tryz.prog 195 #[.int .i64 n] w fun e w' => e = .returned (.bool (amtB n)) ∧ w = w' := by
  by_cases h0 : n < 0
  · have H := Lib.hid (show amtB n = false by rw [amtB_false]; omega)
    go_enter Tryz.func195, Tryz.ntmps195
    go_wp2
    go_ret
    exact ⟨by rw [H.out]; rfl, rfl⟩
  · have h0' : 0 ≤ n := by omega
    have H := Lib.hid (show amtB n = decide (n ≤ 1125899906842624) by unfold amtB; simp [h0'])
    clear h0
    go_enter Tryz.func195, Tryz.ntmps195
    go_wp2
    go_ret
    exact ⟨by rw [H.out]; rfl, rfl⟩
theorem ref_IsOwner (o : Int) (w : World) : Calls Tryz.prog 137 #[.int .i64 o] w fun e w' => e = .returned (.bool (ownB o)) ∧ w = w' := by
  by_cases h0 : o < 0
  · have H := Lib.hid (show ownB o = false by rw [ownB_false]; omega)
    go_enter Tryz.func137, Tryz.ntmps137
    go_wp2
    go_ret
    exact ⟨by rw [H.out]; rfl, rfl⟩
  · have h0' : 0 ≤ o := by omega
    have H := Lib.hid (show ownB o = decide (o < 6) by unfold ownB; simp [h0'])
    clear h0
    go_enter Tryz.func137, Tryz.ntmps137
    go_wp2
    go_ret
    exact ⟨by rw [H.out]; rfl, rfl⟩
theorem refp_Error (p : Value) (o n : Int) (w : World) : Calls Tryz.prog 171 #[p, .int .i64 o, .int .i64 n] w fun e w' => e = .returned (.int .i64 (lookC o n)) ∧ w = w' := by
  have hcase : (ownB o = false ∧ lookC o n = 2) ∨ (ownB o = true ∧ amtB n = false ∧ lookC o n = 2) ∨ (ownB o = true ∧ amtB n = true ∧ lookC o n = 0) := by
    unfold lookC; cases ownB o <;> cases amtB n <;> simp
  rcases hcase with ⟨h1, h⟩ | ⟨h1, h2, h⟩ | ⟨h1, h2, h⟩
  all_goals
    have H := Lib.hid h; clear h
    go_enter Tryz.func171, Tryz.ntmps171
    go_wp2_with (first | (go_at_call 137; refine (ref_IsOwner _ _).mono ?_; rintro e w' ⟨rfl, rfl⟩) | (go_at_call 195; refine (refb_IsAmount _ _).mono ?_; rintro e w' ⟨rfl, rfl⟩))
    go_ret
    exact ⟨by rw [H.out]; rfl, rfl⟩

/-- blocks b and hb are a purse of the document's that holds p -/
structure RPurseAt (b hb : Nat) (p : PS) (w : World) : Prop where
  ok : p.Ok
  row : RowAt b 79 [.slice (some ⟨hb, 0, none⟩) 6 6, .int .i64 p.supply] w
  has : RowAt hb 3 (p.has.map (Value.int .i64)) w
  ne : b ≠ hb
def Two (b hb : Nat) : Nat → Prop := fun k => k = b ∨ k = hb
theorem RPurseAt.keep {F : Nat → Prop} {b hb : Nat} {p : PS} {w w' : World} (h : RPurseAt b hb p w) (k : Keep F w w') (h1 : ¬ F b) (h2 : ¬ F hb) : RPurseAt b hb p w' := ⟨h.ok, h.row.keep k h1, h.has.keep k h2, h.ne⟩
theorem RPurseAt.drewN {b hb : Nat} {p : PS} {w : World} (h : RPurseAt b hb p w) (n : Nat) : RPurseAt b hb p (w.drewN n) := ⟨h.ok, h.row, h.has, h.ne⟩
theorem RPurseAt.c0 {b hb : Nat} {p : PS} {w : World} (h : RPurseAt b hb p w) : w.cell? ⟨b, 0, none⟩ = some (.slice (some ⟨hb, 0, none⟩) 6 6) := by rw [h.row.cell]; rfl
theorem RPurseAt.c1 {b hb : Nat} {p : PS} {w : World} (h : RPurseAt b hb p w) : w.cell? ⟨b, 1, none⟩ = some (.int .i64 p.supply) := by rw [h.row.cell]; rfl
theorem RPurseAt.hc {b hb : Nat} {p : PS} {w : World} (h : RPurseAt b hb p w) {k : Nat} (hk : k < 6) : w.cell? ⟨hb, k, none⟩ = some (.int .i64 (p.at k)) := by
  rw [h.has.cell, List.getElem?_map, List.getElem?_eq_getElem (by rw [h.ok.six]; exact hk)]
  simp [PS.at, h.ok.six, hk]
theorem RPurseAt.setHas {b hb : Nat} {p : PS} {w : World} (h : RPurseAt b hb p w) {k : Nat} (n : Int) (hok : (p.change k n).Ok) : RPurseAt b hb (p.change k n) (w.setCell ⟨hb, k, none⟩ (.int .i64 (p.at k + n))) := by
  refine ⟨hok, h.row.set_other (by simp only; exact fun e => h.ne e.symm) _, ?_, h.ne⟩
  have := h.has.set k (.int .i64 (p.at k + n))
  rw [← List.map_set] at this
  simpa [PS.change] using this
theorem RPurseAt.setSupply {b hb : Nat} {p : PS} {w : World} (h : RPurseAt b hb p w) (n : Int) (hok : (p.grow n).Ok) : RPurseAt b hb (p.grow n) (w.setCell ⟨b, 1, none⟩ (.int .i64 (p.supply + n))) :=
  ⟨hok, h.row.set 1 _, h.has.set_other (by simp only; exact fun e => h.ne e) _, h.ne⟩
def RPurseP (b hb : Nat) (p : PS) (w w' : World) : Prop := Keep (Two b hb) w w' ∧ RPurseAt b hb p w'
theorem RPurseP.refl {b hb : Nat} {p : PS} {w : World} (h : RPurseAt b hb p w) : RPurseP b hb p w w := ⟨Keep.refl _ _, h⟩

theorem refp_New (w : World) : Calls Tryz.prog 105 #[] w fun e w' => ∃ b hb, e = .returned (.pointer (some ⟨b, 0, none⟩)) ∧ Below w.heap.size w w' ∧ w.heap.size ≤ b ∧ w.heap.size ≤ hb ∧ RPurseAt b hb PS.new w' := by
  have hmk : ∀ w, (Instr.makeSlice 38 (.int .i64 6) (.int .i64 6)).run Tryz.prog w = .ok (.slice (some ⟨w.heap.size, 0, none⟩) 6 6) (w.alloc (.cells #[.int .i64 0, .int .i64 0, .int .i64 0, .int .i64 0, .int .i64 0, .int .i64 0] 3)) := fun _ => by kernel_rfl
  go_enter Tryz.func105, Tryz.ntmps105
  go_wp2
  go_ret
  refine ⟨w.heap.size + 1, w.heap.size, rfl, ((Below.refl _ _).alloc (Nat.le_refl _) _).alloc (by simp) _, by omega, Nat.le_refl _, PS.new_ok, ?_, ?_, by omega⟩
  · have := RowAt.new (w.alloc (.cells #[.int .i64 0, .int .i64 0, .int .i64 0, .int .i64 0, .int .i64 0, .int .i64 0] 3)) 79 [.slice (some ⟨w.heap.size, 0, none⟩) 6 6, .int .i64 0]
    have hs : (w.alloc (.cells #[.int .i64 0, .int .i64 0, .int .i64 0, .int .i64 0, .int .i64 0, .int .i64 0] 3)).heap.size = w.heap.size + 1 := by simp
    rw [hs] at this
    exact this
  · exact (RowAt.new w 3 [.int .i64 0, .int .i64 0, .int .i64 0, .int .i64 0, .int .i64 0, .int .i64 0]).alloc _

theorem refp_Sum (b hb : Nat) (p : PS) (w : World) (h : RPurseAt b hb p w) :
    Calls Tryz.prog 55 #[.pointer (some ⟨b, 0, none⟩)] w fun e w' => e = .returned (.int .i64 p.sum) ∧ w = w' := by
  have c0 := h.c0
  have H := Lib.hid h; clear h
  have hS := Lib.hid (show (p.has.take 6).sum = p.sum by rw [List.take_of_length_le (by rw [H.out.ok.six]; exact Nat.le_refl _)]; exact H.out.ok.sumIs)
  go_enter Tryz.func55, Tryz.ntmps55
  go_wp2_with fail
  go_loop [3, 4] (fun t i => ∃ j : Nat, j ≤ 6 ∧ i = .int .i64 j ∧ t = .int .i64 (p.has.take j).sum) (fun _ i => 6 - (intOf i).toNat)
  case atStart => exact ⟨0, by omega, rfl, rfl⟩
  case round =>
    obtain ⟨j, hj, rfl, rfl⟩ := hrel
    by_cases hj6 : j < 6
    · have c1 := H.out.hc hj6
      have hb1 := H.out.ok.at_bd (j : Int)
      have htn : (p.has.take (j + 1)).sum = (p.has.take j).sum + p.at (j : Int) := by
        rw [List.take_succ_eq_append_getElem (by rw [H.out.ok.six]; exact hj6), List.sum_append]
        simp [PS.at, H.out.ok.six, hj6]
      have hts : 0 ≤ (p.has.take j).sum ∧ (p.has.take j).sum + p.at (j : Int) ≤ 1125899906842624 := by
        have h1 := (sum_le_of_nonneg (l := p.has.take j) (fun x hx => H.out.ok.pos x (List.mem_of_mem_take hx)) 0).2.1
        have h2 := (sum_le_of_nonneg (l := p.has.drop (j + 1)) (fun x hx => H.out.ok.pos x (List.mem_of_mem_drop hx)) 0).2.1
        have h3 : p.has.sum = (p.has.take (j + 1)).sum + (p.has.drop (j + 1)).sum := by rw [← List.sum_append, List.take_append_drop]
        rw [htn] at h3
        have := H.out.ok.sumIs; have := H.out.ok.le; have := H.out.ok.most
        omega
      have HT := Lib.hid htn; clear htn
      generalize p.at (j : Int) = v at *
      generalize (p.has.take j).sum = t at *
      go_wp2_with fail
      go_round
      case rel => exact ⟨j + 1, by omega, by go_num, by rw [HT.out]⟩
      case measure => simp [intOf]; omega
    · obtain rfl : j = 6 := by omega
      rw [hS.out]
      go_wp2
      go_ret
      exact ⟨rfl, rfl⟩

theorem Keep.putH {b hb k : Nat} {a w : World} {u : Value} (h : Keep (Two b hb) a w) : Keep (Two b hb) a (w.setCell ⟨hb, k, none⟩ u) := h.setCell (p := ⟨hb, k, none⟩) (.inl (.inr rfl)) u
theorem Keep.putS {b hb k : Nat} {a w : World} {u : Value} (h : Keep (Two b hb) a w) : Keep (Two b hb) a (w.setCell ⟨b, k, none⟩ u) := h.setCell (p := ⟨b, k, none⟩) (.inl (.inl rfl)) u
theorem refp_Error_no (p : Value) (o n : Int) (w : World) (h : lookC o n ≠ 0) : Calls Tryz.prog 171 #[p, .int .i64 o, .int .i64 n] w fun e w' => e = .returned (.int .i64 2) ∧ w = w' := by
  have h2 : lookC o n = 2 := by unfold lookC at h ⊢; split at h <;> simp_all
  have := refp_Error p o n w
  rw [h2] at this; exact this
theorem refp_Error_yes (p : Value) (o n : Int) (w : World) (h : lookC o n = 0) : Calls Tryz.prog 171 #[p, .int .i64 o, .int .i64 n] w fun e w' => e = .returned (.int .i64 0) ∧ w = w' := by
  have := refp_Error p o n w
  rw [h] at this; exact this

set_option maxHeartbeats 400000 in
theorem refp_Mint (b hb : Nat) (p : PS) (o n : Int) (w : World) (h : RPurseAt b hb p w) :
    Calls Tryz.prog 106 #[.pointer (some ⟨b, 0, none⟩), .int .i64 o, .int .i64 n] w fun e w' => e = .returned (.int .i64 (p.mintOp o n).1) ∧ RPurseP b hb (p.mintOp o n).2 w w' := by
  by_cases hl : lookC o n = 0
  · obtain ⟨ho, hn0, hn1⟩ := lookC_zero.1 hl
    have HL := Lib.hid hl
    have hc1 := h.c1
    have b2 := h.ok.le; have b3 := h.ok.most; have b4 := h.ok.sum_bd
    by_cases hm : p.supply + n ≤ 1125899906842624
    · have hg : p.growOp n = (0, p.grow n) := by
        unfold PS.growOp; rw [if_pos]; simp only [Bool.and_eq_true, amtB_iff]; omega
      have hmo : p.mintOp o n = (0, (p.grow n).change o n) := by unfold PS.mintOp; rw [hl, hg]; rfl
      obtain ⟨h0, h6⟩ := ownB_iff.1 ho
      obtain ⟨k, rfl⟩ := Int.eq_ofNat_of_zero_le h0
      have hk : k < 6 := by omega
      have hc0 := h.c0
      have f1 := h.row.frozen 1
      have hck := h.hc hk
      have fk := h.has.frozen k
      have bk := h.ok.at_bd (k : Int)
      have hok := PS.mintOp_ok h.ok (k : Int) n
      rw [hmo] at hok
      have hfin : RPurseAt b hb ((p.grow n).change k n) ((w.setCell ⟨hb, k, none⟩ (.int .i64 (p.at k + n))).setCell ⟨b, 1, none⟩ (.int .i64 (p.supply + n))) := by
        refine ⟨hok, ?_, ?_, h.ne⟩
        · exact (h.row.set_other (p := ⟨hb, k, none⟩) (by simp only; exact fun e => h.ne e.symm) _).set 1 _
        · have := h.has.set k (.int .i64 (p.at k + n))
          rw [← List.map_set] at this
          exact RowAt.set_other this (p := ⟨b, 1, none⟩) (by simp only; exact fun e => h.ne e) _
      have HF := Lib.hid hfin; have HM := Lib.hid hmo
      have hne := h.ne
      have hkp : Keep (Two b hb) w ((w.setCell ⟨hb, k, none⟩ (.int .i64 (p.at k + n))).setCell ⟨b, 1, none⟩ (.int .i64 (p.supply + n))) := ((Keep.refl _ _).putH.putS)
      have HK := Lib.hid hkp
      clear hl ho hg hmo hok hfin h h0 h6 hkp
      have hz0 : ((0 : Int) == 0) = true := rfl
      generalize hx : p.at (k : Int) = x at *
      generalize hy : p.supply = y at *
      have hd : decide (1125899906842624 < y + n) = false := decide_eq_false (by omega)
      clear hx hy
      go_enter Tryz.func106, Tryz.ntmps106
      go_wp2_with fail
      refine (refp_Error_yes _ _ _ _ HL.out).mono ?_
      rintro e w' ⟨rfl, rfl⟩
      go_wp2_with fail
      go_region
      go_wp2_with fail
      go_ret
      rw [HM.out]
      exact ⟨rfl, HK.out.drew, HF.out.drewN 1⟩
    · have hmo : p.mintOp o n = (2, p) := by
        unfold PS.mintOp; rw [hl]
        have : (p.growOp n).1 = 2 := by unfold PS.growOp; rw [if_neg]; simp only [Bool.and_eq_true, amtB_iff]; omega
        rw [this]; rfl
      have HM := Lib.hid hmo; have H := Lib.hid h
      clear hl ho hmo h
      generalize hy : p.supply = y at *
      have hd : decide (1125899906842624 < y + n) = true := decide_eq_true (by omega)
      clear hy
      have hz0 : ((0 : Int) == 0) = true := rfl
      go_enter Tryz.func106, Tryz.ntmps106
      go_wp2_with fail
      refine (refp_Error_yes _ _ _ _ HL.out).mono ?_
      rintro e w' ⟨rfl, rfl⟩
      go_wp2_with fail
      go_ret
      rw [HM.out]
      exact ⟨rfl, RPurseP.refl H.out⟩
  · have hmo : p.mintOp o n = (2, p) := by unfold PS.mintOp; rw [if_pos hl]
    have HM := Lib.hid hmo; have H := Lib.hid h; have HL := Lib.hid hl
    clear hl hmo h
    go_enter Tryz.func106, Tryz.ntmps106
    go_wp2_with fail
    refine (refp_Error_no _ _ _ _ HL.out).mono ?_
    rintro e w' ⟨rfl, rfl⟩
    go_wp2_with fail
    go_ret
    rw [HM.out]
    exact ⟨rfl, RPurseP.refl H.out⟩
set_option maxHeartbeats 400000 in
theorem refp_Grow (b hb : Nat) (p : PS) (n : Int) (w : World) (h : RPurseAt b hb p w) :
    Calls Tryz.prog 176 #[.pointer (some ⟨b, 0, none⟩), .int .i64 n] w fun e w' => e = .returned (.int .i64 (p.growOp n).1) ∧ RPurseP b hb (p.growOp n).2 w w' := by
  by_cases hn : amtB n = true
  · obtain ⟨n0, n1⟩ := amtB_iff.1 hn
    have hc1 := h.c1
    have b2 := h.ok.le; have b3 := h.ok.most; have b4 := h.ok.sum_bd
    have HN := Lib.hid hn
    by_cases hm : p.supply + n ≤ 1125899906842624
    · have hg : p.growOp n = (0, p.grow n) := by
        unfold PS.growOp; rw [if_pos]; simp only [Bool.and_eq_true, amtB_iff]; omega
      have f1 := h.row.frozen 1
      have hok := PS.growOp_ok h.ok n
      rw [hg] at hok
      have HF := Lib.hid (h.setSupply n hok); have HM := Lib.hid hg
      have HK := Lib.hid (show Keep (Two b hb) w (w.setCell ⟨b, 1, none⟩ (.int .i64 (p.supply + n))) from (Keep.refl _ _).putS)
      clear hg hok h hn
      generalize hy : p.supply = y at *
      have hd : decide (1125899906842624 < y + n) = false := decide_eq_false (by omega)
      clear hy
      go_enter Tryz.func176, Tryz.ntmps176
      go_wp2_with fail
      refine (refb_IsAmount _ _).mono ?_
      rw [HN.out]
      rintro e w' ⟨rfl, rfl⟩
      go_wp2_with fail
      go_ret
      rw [HM.out]
      exact ⟨rfl, HK.out, HF.out⟩
    · have hg : p.growOp n = (2, p) := by
        unfold PS.growOp; rw [if_neg]; simp only [Bool.and_eq_true, amtB_iff]; omega
      have HM := Lib.hid hg; have H := Lib.hid h
      clear hg h hn
      generalize hy : p.supply = y at *
      have hd : decide (1125899906842624 < y + n) = true := decide_eq_true (by omega)
      clear hy
      go_enter Tryz.func176, Tryz.ntmps176
      go_wp2_with fail
      refine (refb_IsAmount _ _).mono ?_
      rw [HN.out]
      rintro e w' ⟨rfl, rfl⟩
      go_wp2_with fail
      go_ret
      rw [HM.out]
      exact ⟨rfl, RPurseP.refl H.out⟩
  · have hn' : amtB n = false := by simpa using hn
    have hg : p.growOp n = (2, p) := by unfold PS.growOp; rw [hn']; rfl
    have HM := Lib.hid hg; have H := Lib.hid h; have HN := Lib.hid hn'
    clear hg h hn hn'
    go_enter Tryz.func176, Tryz.ntmps176
    go_wp2_with fail
    refine (refb_IsAmount _ _).mono ?_
    rw [HN.out]
    rintro e w' ⟨rfl, rfl⟩
    go_wp2_with fail
    go_ret
    rw [HM.out]
    exact ⟨rfl, RPurseP.refl H.out⟩

set_option maxHeartbeats 400000 in
theorem refp_Out (b hb : Nat) (p : PS) (o n : Int) (w : World) (h : RPurseAt b hb p w) :
    Calls Tryz.prog 107 #[.pointer (some ⟨b, 0, none⟩), .int .i64 o, .int .i64 n] w fun e w' => e = .returned (.int .i64 (p.outOp o n).1) ∧ RPurseP b hb (p.outOp o n).2 w w' := by
  by_cases hl : lookC o n = 0
  · obtain ⟨ho, hn0, hn1⟩ := lookC_zero.1 hl
    have HL := Lib.hid hl
    have b2 := h.ok.le; have b3 := h.ok.most; have b4 := h.ok.sum_bd
    obtain ⟨h0, h6⟩ := ownB_iff.1 ho
    obtain ⟨k, rfl⟩ := Int.eq_ofNat_of_zero_le h0
    have hk : k < 6 := by omega
    have hc0 := h.c0
    have hck := h.hc hk
    have bk := h.ok.at_bd (k : Int)
    have hz0 : ((0 : Int) == 0) = true := rfl
    by_cases hm : p.at k < n
    · have hmo : p.outOp k n = (6, p) := by unfold PS.outOp; rw [hl, if_neg (by simp), if_pos hm]
      have HM := Lib.hid hmo; have H := Lib.hid h
      have hd : decide (p.at k < n) = true := decide_eq_true hm
      clear hl ho hmo h h0 h6
      generalize hx : p.at (k : Int) = x at *
      clear hx hm
      go_enter Tryz.func107, Tryz.ntmps107
      go_wp2_with fail
      refine (refp_Error_yes _ _ _ _ HL.out).mono ?_
      rintro e w' ⟨rfl, rfl⟩
      go_wp2_with fail
      go_ret
      rw [HM.out]
      exact ⟨rfl, RPurseP.refl H.out⟩
    · have hmo : p.outOp k n = (0, p.change k (-n)) := by unfold PS.outOp; rw [hl, if_neg (by simp), if_neg hm]
      have fk := h.has.frozen k
      have hok := h.ok.change (o := k) (n := -n) ho (by omega) (by omega)
      have hfin := h.setHas (k := k) (-n) hok
      rw [show p.at k + -n = p.at k - n from (Int.sub_eq_add_neg).symm] at hfin
      have HF := Lib.hid hfin; have HM := Lib.hid hmo
      have HK := Lib.hid (show Keep (Two b hb) w (w.setCell ⟨hb, k, none⟩ (.int .i64 (p.at k - n))) from (Keep.refl _ _).putH)
      have hd : decide (p.at k < n) = false := decide_eq_false hm
      clear hl ho hmo hok hfin h h0 h6
      generalize hx : p.at (k : Int) = x at *
      clear hx
      go_enter Tryz.func107, Tryz.ntmps107
      go_wp2_with fail
      refine (refp_Error_yes _ _ _ _ HL.out).mono ?_
      rintro e w' ⟨rfl, rfl⟩
      go_wp2_with fail
      go_region
      go_wp2_with fail
      go_ret
      rw [HM.out]
      exact ⟨rfl, HK.out.drew, HF.out.drewN 1⟩
  · have hmo : p.outOp o n = (2, p) := by unfold PS.outOp; rw [if_pos hl]
    have HM := Lib.hid hmo; have H := Lib.hid h; have HL := Lib.hid hl
    clear hl hmo h
    go_enter Tryz.func107, Tryz.ntmps107
    go_wp2_with fail
    refine (refp_Error_no _ _ _ _ HL.out).mono ?_
    rintro e w' ⟨rfl, rfl⟩
    go_wp2_with fail
    go_ret
    rw [HM.out]
    exact ⟨rfl, RPurseP.refl H.out⟩
end Go.Proofs.YtajnfkmkombajacGreatDoor
namespace Go.Proofs.YtajnfkmkombajacGreatDoor
open Go.RowKit

theorem prod_step {b c n left A bit : Nat} (hc : 0 < c) (hn : n = A * b / c) (hl : left = A * b % c) :
    2 * n + (2 * left + bit * b) / c = (2 * A + bit) * b / c ∧ (2 * left + bit * b) % c = (2 * A + bit) * b % c := by
  have h := Nat.div_add_mod (A * b) c
  rw [← hn, ← hl] at h
  have e : (2 * A + bit) * b = (2 * left + bit * b) + c * (2 * n) := by
    rw [Nat.add_mul, Nat.mul_assoc, ← h, Nat.mul_add, Nat.mul_left_comm]; omega
  rw [e, Nat.add_mul_div_left _ _ hc, Nat.add_mul_mod_self_left]
  exact ⟨Nat.add_comm _ _, rfl⟩
theorem half_of (a k : Nat) : a / 2 ^ k = 2 * (a / 2 ^ (k + 1)) + a / 2 ^ k % 2 := by
  rw [Nat.pow_succ, ← Nat.div_div_eq_div_mul]; omega
/-- the part so far is no more than the whole one -/
theorem part_le (a b c k : Nat) : a / 2 ^ k * b / c ≤ a * b / c := Nat.div_le_div_right (Nat.mul_le_mul_right _ (Nat.div_le_self _ _))
theorem top_zero {a : Nat} (h : a ≤ 1125899906842624) : a / 2 ^ 51 = 0 := Nat.div_eq_of_lt (by omega)
theorem bit_cases (x : Nat) : x % 2 = 0 ∨ x % 2 = 1 := by omega
theorem over_nat {a b c : Nat} (ha : a ≤ 1125899906842624) (hb : b ≤ 1125899906842624) (hc0 : 0 < c) (hc : c ≤ 1125899906842624) (h : a * b / c ≤ 1125899906842624) : overOk a b c := by
  refine ⟨by omega, by omega, by omega, ?_⟩
  have : ((a : Int) * b / c) = ((a * b / c : Nat) : Int) := by simp
  rw [this]; omega
theorem over_nat' {a b c : Nat} (h : ¬ a * b / c ≤ 1125899906842624) : ¬ overOk a b c := by
  rintro ⟨-, -, -, h'⟩
  have : ((a : Int) * b / c) = ((a * b / c : Nat) : Int) := by simp
  rw [this] at h'; omega
theorem overN_nat {a b c : Nat} (h : overOk a b c) : overN a b c = ((a * b / c : Nat) : Int) := by rw [(over_yes h).2.1]; simp
end Go.Proofs.YtajnfkmkombajacGreatDoor
namespace Go.Proofs.YtajnfkmkombajacGreatDoor
open Go.RowKit

def prodV (a b c : Nat) : Value := if a * b / c ≤ 1125899906842624 then .tuple #[.int .i64 ((a * b / c : Nat) : Int), .int .i64 ((a * b % c : Nat) : Int), .bool true] else .tuple #[.int .i64 0, .int .i64 0, .bool false]

set_option maxRecDepth 8000 in
set_option maxHeartbeats 1000000 in
theorem ref_Product (a b c : Nat) (ha : a ≤ 1125899906842624) (hb : b ≤ 1125899906842624) (hc0 : 0 < c) (hc : c ≤ 1125899906842624) (w : World) :
    Calls Tryz.prog 145 #[.int .i64 a, .int .i64 b, .int .i64 c] w fun e w' => e = .returned (prodV a b c) ∧ w = w' := by
  have HA := Lib.hid ha
  have HB := Lib.hid hb
  have HC := Lib.hid hc
  have HC0 := Lib.hid hc0
  clear ha hb hc hc0
  go_enter Tryz.func145, Tryz.ntmps145
  go_wp2_with fail
  go_loop [9, 10, 11] (fun sn sl sk => ∃ m n l : Nat, m ≤ 51 ∧ sk = .int .i64 ((m : Int) - 1) ∧ sn = .int .i64 n ∧ sl = .int .i64 l ∧ n = a / 2 ^ m * b / c ∧ l = a / 2 ^ m * b % c ∧ n ≤ 1125899906842624) (fun _ _ k => (intOf k + 1).toNat)
  case atStart => exact ⟨51, 0, 0, by decide, rfl, rfl, rfl, by rw [top_zero HA.out]; simp, by rw [top_zero HA.out]; simp, by decide⟩
  case round =>
    obtain ⟨m, n, l, hm, rfl, rfl, rfl, hn, hl, hnm⟩ := hrel
    by_cases h0 : m = 0
    · subst h0
      have hp : prodV a b c = .tuple #[.int .i64 (n : Int), .int .i64 (l : Int), .bool true] := by
        simp only [Nat.pow_zero, Nat.div_one] at hn hl
        unfold prodV; rw [← hn, ← hl, if_pos hnm]
      have HP := Lib.hid hp
      clear hn hl hp hnm hm
      have hz : ((0 : Nat) : Int) - 1 = -1 := rfl
      rw [hz]
      go_wp2_with fail
      go_ret3
      exact ⟨by rw [HP.out]; rfl, rfl⟩
    · obtain ⟨k, rfl⟩ : ∃ k, m = k + 1 := ⟨m - 1, by omega⟩
      have hk : ((k + 1 : Nat) : Int) - 1 = (k : Int) := by omega
      rw [hk]
      have hlc : l < c := by rw [hl]; exact Nat.mod_lt _ HC0.out
      have hl2 : l ≤ 1125899906842624 := by have := HC.out; omega
      clear hlc hk
      have hhalf := half_of a k
      have hle := part_le a b c k
      have e0 : ((a : Int) / 2 ^ k) = ((a / 2 ^ k : Nat) : Int) := by simp
      have hb := HB.out
      have hc0 := HC0.out
      rcases bit_cases (a / 2 ^ k) with hbit | hbit
      · have t : (((a : Int) / 2 ^ k).tmod 2 == 1) = false := by
          rw [e0]
          show (((a / 2 ^ k % 2 : Nat) : Int) == 1) = _
          rw [hbit]; rfl
        obtain ⟨s1, s2⟩ := prod_step (bit := 0) hc0 hn hl
        rw [hbit] at hhalf
        rw [← hhalf, show 2 * l + 0 * b = 2 * l by omega] at s1 s2
        have hd : (2 * (l : Int)).tdiv (c : Int) = ((2 * l) / c : Nat) := by
          rw [show (2 * (l : Int)) = ((2 * l : Nat) : Int) by omega]; rfl
        have hr : (2 * (l : Int)).tmod (c : Int) = ((2 * l) % c : Nat) := by
          rw [show (2 * (l : Int)) = ((2 * l : Nat) : Int) by omega]; rfl
        have hdb : (2 * l) / c ≤ 2 * l := Nat.div_le_self _ _
        have hrb : (2 * l) % c ≤ 2 * l := Nat.mod_le _ _
        generalize (2 * l) / c = d at *
        generalize (2 * l) % c = r at *
        rw [← s1] at hle
        have S1 := Lib.hid s1; have S2 := Lib.hid s2
        clear s1 s2 hn hl hhalf e0 hbit
        by_cases hbig : 1125899906842624 < 2 * n + d
        · have hp : prodV a b c = .tuple #[.int .i64 0, .int .i64 0, .bool false] := by
            unfold prodV; rw [if_neg (by omega)]
          have HP := Lib.hid hp
          clear hp hle
          go_wp2_with fail
          go_ret3
          exact ⟨by rw [HP.out]; rfl, rfl⟩
        · clear hle
          go_wp2_with fail
          go_round
          case rel => exact ⟨k, 2 * n + d, r, by omega, rfl, by go_num, rfl, S1.out, S2.out, by omega⟩
          case measure => simp [intOf]
      · have t : (((a : Int) / 2 ^ k).tmod 2 == 1) = true := by
          rw [e0]
          show (((a / 2 ^ k % 2 : Nat) : Int) == 1) = _
          rw [hbit]; rfl
        obtain ⟨s1, s2⟩ := prod_step (bit := 1) hc0 hn hl
        rw [hbit] at hhalf
        rw [← hhalf, show 2 * l + 1 * b = 2 * l + b by omega] at s1 s2
        have hd : (2 * (l : Int) + (b : Int)).tdiv (c : Int) = ((2 * l + b) / c : Nat) := by
          rw [show (2 * (l : Int) + (b : Int)) = ((2 * l + b : Nat) : Int) by omega]; rfl
        have hr : (2 * (l : Int) + (b : Int)).tmod (c : Int) = ((2 * l + b) % c : Nat) := by
          rw [show (2 * (l : Int) + (b : Int)) = ((2 * l + b : Nat) : Int) by omega]; rfl
        have hdb : (2 * l + b) / c ≤ 2 * l + b := Nat.div_le_self _ _
        have hrb : (2 * l + b) % c ≤ 2 * l + b := Nat.mod_le _ _
        generalize (2 * l + b) / c = d at *
        generalize (2 * l + b) % c = r at *
        rw [← s1] at hle
        have S1 := Lib.hid s1; have S2 := Lib.hid s2
        clear s1 s2 hn hl hhalf e0 hbit
        by_cases hbig : 1125899906842624 < 2 * n + d
        · have hp : prodV a b c = .tuple #[.int .i64 0, .int .i64 0, .bool false] := by
            unfold prodV; rw [if_neg (by omega)]
          have HP := Lib.hid hp
          clear hp hle
          go_wp2_with fail
          go_ret3
          exact ⟨by rw [HP.out]; rfl, rfl⟩
        · clear hle
          go_wp2_with fail
          go_round
          case rel => exact ⟨k, 2 * n + d, r, by omega, rfl, by go_num, rfl, S1.out, S2.out, by omega⟩
          case measure => simp [intOf]

theorem rprod_yes {a b c : Nat} (h : a * b / c ≤ 1125899906842624) : prodV a b c = .tuple #[.int .i64 ((a * b / c : Nat) : Int), .int .i64 ((a * b % c : Nat) : Int), .bool true] := by unfold prodV; rw [if_pos h]
theorem rprod_no {a b c : Nat} (h : ¬ a * b / c ≤ 1125899906842624) : prodV a b c = .tuple #[.int .i64 0, .int .i64 0, .bool false] := by unfold prodV; rw [if_neg h]

/-- the first test of DownOf and of UpOf fails: the four ways -/
theorem ref_bad {a b c : Int} (h : ¬ (amtB a = true ∧ amtB b = true ∧ amtB c = true ∧ c ≠ 0)) : amtB a = false ∨ (amtB a = true ∧ amtB b = false) ∨ (amtB a = true ∧ amtB b = true ∧ amtB c = false) ∨ (amtB a = true ∧ amtB b = true ∧ amtB c = true ∧ c = 0) := by
  cases h1 : amtB a <;> cases h2 : amtB b <;> cases h3 : amtB c <;> simp_all

end Go.Proofs.YtajnfkmkombajacGreatDoor
namespace Go.Proofs.YtajnfkmkombajacGreatDoor
open Go.RowKit

/-- block b begins with these values -/
def RowPre (b : Nat) (T : TypeId) (vs : List Value) (w : World) : Prop := ∃ tl, RowAt b T (vs ++ tl) w
theorem RowPre.lt {b : Nat} {T : TypeId} {vs : List Value} {w : World} (h : RowPre b T vs w) : b < w.heap.size := h.choose_spec.lt
theorem RowPre.cell {b : Nat} {T : TypeId} {vs : List Value} {w : World} (h : RowPre b T vs w) {i : Nat} (hi : i < vs.length) : w.cell? ⟨b, i, none⟩ = vs[i]? := by
  obtain ⟨tl, h⟩ := h
  rw [h.cell, List.getElem?_append_left hi]
theorem RowPre.frozen {b : Nat} {T : TypeId} {vs : List Value} {w : World} (h : RowPre b T vs w) (i : Nat) : w.frozen? ⟨b, i, none⟩ = false := h.choose_spec.frozen i
theorem RowPre.keep {F : Nat → Prop} {b : Nat} {T : TypeId} {vs : List Value} {w w' : World} (h : RowPre b T vs w) (k : Keep F w w') (hF : ¬ F b) : RowPre b T vs w' := ⟨_, h.choose_spec.keep k hF⟩
theorem RowPre.set {b : Nat} {T : TypeId} {vs : List Value} {w : World} (h : RowPre b T vs w) {i : Nat} (hi : i < vs.length) (v : Value) : RowPre b T (vs.set i v) (w.setCell ⟨b, i, none⟩ v) := by
  obtain ⟨tl, h⟩ := h
  refine ⟨tl, ?_⟩
  have := h.set i v
  rwa [List.set_append_left _ _ hi] at this
theorem RowPre.set_other {b : Nat} {T : TypeId} {vs : List Value} {w : World} (h : RowPre b T vs w) {p : Addr} (hp : p.block ≠ b) (v : Value) : RowPre b T vs (w.setCell p v) := ⟨_, h.choose_spec.set_other hp v⟩
theorem RowPre.of {b : Nat} {T : TypeId} {vs : List Value} {w : World} (h : RowAt b T vs w) : RowPre b T vs w := ⟨[], by rw [List.append_nil]; exact h⟩

/-- blocks b and sb are a pool of the document's that holds q -/
structure RPoolAt (b sb cap : Nat) (q : QS) (w : World) : Prop where
  ok : q.Ok
  row : RowAt b 124 [.int .i64 q.total, .slice (some ⟨sb, 0, none⟩) 6 cap] w
  has : RowPre sb 3 (q.sh.map (Value.int .i64)) w
  ne : b ≠ sb
  c6 : 6 ≤ cap
  cm : cap ≤ maxLen
section
variable {b sb cap : Nat} {q : QS} {w w' : World}
theorem RPoolAt.keep {F : Nat → Prop} (h : RPoolAt b sb cap q w) (k : Keep F w w') (h1 : ¬ F b) (h2 : ¬ F sb) : RPoolAt b sb cap q w' := ⟨h.ok, h.row.keep k h1, h.has.keep k h2, h.ne, h.c6, h.cm⟩
theorem RPoolAt.drewN (h : RPoolAt b sb cap q w) (n : Nat) : RPoolAt b sb cap q (w.drewN n) := ⟨h.ok, h.row, h.has, h.ne, h.c6, h.cm⟩
theorem RPoolAt.c0 (h : RPoolAt b sb cap q w) : w.cell? ⟨b, 0, none⟩ = some (.int .i64 q.total) := by rw [h.row.cell]; rfl
theorem RPoolAt.c1 (h : RPoolAt b sb cap q w) : w.cell? ⟨b, 1, none⟩ = some (.slice (some ⟨sb, 0, none⟩) 6 cap) := by rw [h.row.cell]; rfl
theorem RPoolAt.hc (h : RPoolAt b sb cap q w) {k : Nat} (hk : k < 6) : w.cell? ⟨sb, k, none⟩ = some (.int .i64 (q.at k)) := by
  rw [h.has.cell (by rw [List.length_map, h.ok.six]; exact hk), List.getElem?_map, List.getElem?_eq_getElem (by rw [h.ok.six]; exact hk)]
  have ho : ownB (k : Int) = true := ownB_iff.2 ⟨by omega, by omega⟩
  simp [QS.at, ho, h.ok.six, hk]
theorem RPoolAt.hf (h : RPoolAt b sb cap q w) (k : Nat) : w.frozen? ⟨sb, k, none⟩ = false := h.has.frozen k
theorem RPoolAt.lt (h : RPoolAt b sb cap q w) : b < w.heap.size ∧ sb < w.heap.size := ⟨h.row.lt, h.has.lt⟩
theorem RPoolAt.change (h : RPoolAt b sb cap q w) {k : Nat} (hk : k < 6) (s n : Int) (hok : (q.change k s n).Ok) :
    RPoolAt b sb cap (q.change k s n) ((w.setCell ⟨sb, k, none⟩ (.int .i64 (q.at k + s))).setCell ⟨b, 0, none⟩ (.int .i64 (q.total + n))) := by
  refine ⟨hok, (h.row.set_other (p := ⟨sb, k, none⟩) (by simp only; exact fun e => h.ne e.symm) _).set 0 _, ?_, h.ne, h.c6, h.cm⟩
  have := h.has.set (i := k) (by rw [List.length_map, h.ok.six]; exact hk) (.int .i64 (q.at k + s))
  rw [← List.map_set] at this
  exact RowPre.set_other this (p := ⟨b, 0, none⟩) (by simp only; exact fun e => h.ne e) _
theorem RPoolAt.setTotal (h : RPoolAt b sb cap q w) (t : Int) (hok : (QS.mk t q.all q.sh).Ok) : RPoolAt b sb cap ⟨t, q.all, q.sh⟩ (w.setCell ⟨b, 0, none⟩ (.int .i64 t)) :=
  ⟨hok, h.row.set 0 _, h.has.set_other (p := ⟨b, 0, none⟩) (by simp only; exact fun e => h.ne e) _, h.ne, h.c6, h.cm⟩
end
/-- the pool may have turned -/
def RPoolP (b sb cap : Nat) (q : QS) (w w' : World) : Prop := Keep (fun k => k = b ∨ k = sb) w w' ∧ RPoolAt b sb cap q w'
theorem RPoolP.refl {b sb cap : Nat} {q : QS} {w : World} (h : RPoolAt b sb cap q w) : RPoolP b sb cap q w w := ⟨Keep.refl _ _, h⟩
theorem RPoolAt.changeP {b sb cap : Nat} {q : QS} {w : World} (h : RPoolAt b sb cap q w) {k : Nat} (hk : k < 6) (s n : Int) (hok : (q.change k s n).Ok) :
    RPoolP b sb cap (q.change k s n) w ((w.setCell ⟨sb, k, none⟩ (.int .i64 (q.at k + s))).setCell ⟨b, 0, none⟩ (.int .i64 (q.total + n))) :=
  ⟨((Keep.refl _ _).setCell (p := ⟨sb, k, none⟩) (.inl (.inr rfl)) _).setCell (p := ⟨b, 0, none⟩) (.inl (.inl rfl)) _, h.change hk s n hok⟩
theorem RPoolAt.totalP {b sb cap : Nat} {q : QS} {w : World} (h : RPoolAt b sb cap q w) (t : Int) (hok : (QS.mk t q.all q.sh).Ok) : RPoolP b sb cap ⟨t, q.all, q.sh⟩ w (w.setCell ⟨b, 0, none⟩ (.int .i64 t)) :=
  ⟨(Keep.refl _ _).setCell (p := ⟨b, 0, none⟩) (.inl (.inl rfl)) _, h.setTotal t hok⟩
theorem RPoolP.drewN {b sb cap : Nat} {q : QS} {w w' : World} (h : RPoolP b sb cap q w w') (n : Nat) : RPoolP b sb cap q w (w'.drewN n) := ⟨h.1.drewN n, h.2.drewN n⟩

theorem ref_Product_yes {a b c : Int} (h : overOk a b c) (w : World) :
    Calls Tryz.prog 145 #[.int .i64 a, .int .i64 b, .int .i64 c] w fun e w' => e = .returned (.tuple #[.int .i64 (overN a b c), .int .i64 (overR a b c), .bool true]) ∧ w = w' := by
  obtain ⟨_, e1, e2⟩ := over_yes h
  obtain ⟨⟨a0, a1⟩, ⟨b0, b1⟩, ⟨c0, c1⟩, hq⟩ := h
  obtain ⟨a, rfl⟩ := Int.eq_ofNat_of_zero_le a0
  obtain ⟨b, rfl⟩ := Int.eq_ofNat_of_zero_le b0
  obtain ⟨c, rfl⟩ := Int.eq_ofNat_of_zero_le (show 0 ≤ c by omega)
  have f1 : ((a : Int) * b / c) = ((a * b / c : Nat) : Int) := by simp
  have f2 : ((a : Int) * b % c) = ((a * b % c : Nat) : Int) := by simp
  rw [f1] at hq e1
  rw [f2] at e2
  have hq' : a * b / c ≤ 1125899906842624 := by clear e1 e2 f1 f2; generalize a * b / c = z at hq ⊢; omega
  have := ref_Product a b c (by omega) (by omega) (by omega) (by omega) w
  rw [rprod_yes hq'] at this
  rw [e1, e2]; exact this
theorem ref_Product_no {a b c : Int} (ha : 0 ≤ a ∧ a ≤ 1125899906842624) (hb : 0 ≤ b ∧ b ≤ 1125899906842624) (hc : 1 ≤ c ∧ c ≤ 1125899906842624) (h : ¬ overOk a b c) (w : World) :
    Calls Tryz.prog 145 #[.int .i64 a, .int .i64 b, .int .i64 c] w fun e w' => e = .returned (.tuple #[.int .i64 0, .int .i64 0, .bool false]) ∧ w = w' := by
  obtain ⟨a0, a1⟩ := ha; obtain ⟨b0, b1⟩ := hb; obtain ⟨c0, c1⟩ := hc
  obtain ⟨a, rfl⟩ := Int.eq_ofNat_of_zero_le a0
  obtain ⟨b, rfl⟩ := Int.eq_ofNat_of_zero_le b0
  obtain ⟨c, rfl⟩ := Int.eq_ofNat_of_zero_le (show 0 ≤ c by omega)
  have hq' : ¬ a * b / c ≤ 1125899906842624 := fun hq => h (over_nat (by omega) (by omega) (by omega) (by omega) hq)
  have := ref_Product a b c (by omega) (by omega) (by omega) (by omega) w
  rw [rprod_no hq'] at this
  exact this

theorem refq_New (w : World) : Calls Tryz.prog 132 #[] w fun e w' => ∃ b sb, e = .returned (.pointer (some ⟨b, 0, none⟩)) ∧ Below w.heap.size w w' ∧ w.heap.size ≤ b ∧ w.heap.size ≤ sb ∧ RPoolAt b sb 6 QS.new w' := by
  have hmk : ∀ w, (Instr.makeSlice 38 (.int .i64 6) (.int .i64 6)).run Tryz.prog w = .ok (.slice (some ⟨w.heap.size, 0, none⟩) 6 6) (w.alloc (.cells #[.int .i64 0, .int .i64 0, .int .i64 0, .int .i64 0, .int .i64 0, .int .i64 0] 3)) := fun _ => by kernel_rfl
  go_enter Tryz.func132, Tryz.ntmps132
  go_wp2
  go_ret
  refine ⟨w.heap.size + 1, w.heap.size, rfl, ((Below.refl _ _).alloc (Nat.le_refl _) _).alloc (by simp) _, by omega, Nat.le_refl _, QS.new_ok, ?_, ?_, by omega, Nat.le_refl _, by decide⟩
  · have := RowAt.new (w.alloc (.cells #[.int .i64 0, .int .i64 0, .int .i64 0, .int .i64 0, .int .i64 0, .int .i64 0] 3)) 124 [.int .i64 0, .slice (some ⟨w.heap.size, 0, none⟩) 6 6]
    have hs : (w.alloc (.cells #[.int .i64 0, .int .i64 0, .int .i64 0, .int .i64 0, .int .i64 0, .int .i64 0] 3)).heap.size = w.heap.size + 1 := by simp
    rw [hs] at this
    exact this
  · exact RowPre.of ((RowAt.new w 3 [.int .i64 0, .int .i64 0, .int .i64 0, .int .i64 0, .int .i64 0, .int .i64 0]).alloc _)

theorem refq_All (b sb cap : Nat) (q : QS) (w : World) (h : RPoolAt b sb cap q w) :
    Calls Tryz.prog 144 #[.pointer (some ⟨b, 0, none⟩)] w fun e w' => e = .returned (.int .i64 q.all) ∧ w = w' := by
  have c1 := h.c1
  have H := Lib.hid h; clear h
  have hS := Lib.hid (show (q.sh.take 6).sum = q.all by rw [List.take_of_length_le (by rw [H.out.ok.six]; exact Nat.le_refl _)]; exact H.out.ok.sumIs)
  go_enter Tryz.func144, Tryz.ntmps144
  go_wp2_with fail
  go_loop [3, 4] (fun t i => ∃ j : Nat, j ≤ 6 ∧ i = .int .i64 j ∧ t = .int .i64 (q.sh.take j).sum) (fun _ i => 6 - (intOf i).toNat)
  case atStart => exact ⟨0, by omega, rfl, rfl⟩
  case round =>
    obtain ⟨j, hj, rfl, rfl⟩ := hrel
    by_cases hj6 : j < 6
    · have ch := H.out.hc hj6
      have hb1 := H.out.ok.at_bd (j : Int)
      have ho : ownB (j : Int) = true := ownB_iff.2 ⟨by omega, by omega⟩
      have htn : (q.sh.take (j + 1)).sum = (q.sh.take j).sum + q.at (j : Int) := by
        rw [List.take_succ_eq_append_getElem (by rw [H.out.ok.six]; exact hj6), List.sum_append]
        simp [QS.at, ho, H.out.ok.six, hj6]
      have hts : 0 ≤ (q.sh.take j).sum ∧ (q.sh.take j).sum + q.at (j : Int) ≤ 1125899906842624 := by
        have h1 := (sum_le_of_nonneg (l := q.sh.take j) (fun x hx => H.out.ok.pos x (List.mem_of_mem_take hx)) 0).2.1
        have h2 := (sum_le_of_nonneg (l := q.sh.drop (j + 1)) (fun x hx => H.out.ok.pos x (List.mem_of_mem_drop hx)) 0).2.1
        have h3 : q.sh.sum = (q.sh.take (j + 1)).sum + (q.sh.drop (j + 1)).sum := by rw [← List.sum_append, List.take_append_drop]
        rw [htn] at h3
        have := H.out.ok.sumIs; have := H.out.ok.a1
        omega
      have HT := Lib.hid htn; clear htn ho
      generalize q.at (j : Int) = v at *
      generalize (q.sh.take j).sum = t at *
      go_wp2_with fail
      go_round
      case rel => exact ⟨j + 1, by omega, by go_num, by rw [HT.out]⟩
      case measure => simp [intOf]; omega
    · obtain rfl : j = 6 := by omega
      rw [hS.out]
      go_wp2
      go_ret
      exact ⟨rfl, rfl⟩

theorem refq_Shares (b sb cap : Nat) (q : QS) (o : Int) (w : World) (h : RPoolAt b sb cap q w) :
    Calls Tryz.prog 146 #[.pointer (some ⟨b, 0, none⟩), .int .i64 o] w fun e w' => e = .returned (.int .i64 (q.at o)) ∧ w = w' := by
  by_cases ho : ownB o = true
  · obtain ⟨h0, h6⟩ := ownB_iff.1 ho
    obtain ⟨k, rfl⟩ := Int.eq_ofNat_of_zero_le h0
    have hk : k < 6 := by omega
    have hc1 := h.c1
    have hck := h.hc hk
    clear h
    generalize q.at (k : Int) = x at *
    go_enter Tryz.func146, Tryz.ntmps146
    go_wp2_with (go_at_call 137; refine (ref_IsOwner _ _).mono ?_; rintro e w' ⟨rfl, rfl⟩)
    go_ret
    exact ⟨rfl, rfl⟩
  · have ho' : ownB o = false := by simpa using ho
    have HV := Lib.hid (show q.at o = 0 by unfold QS.at; rw [ho']; rfl)
    clear h ho
    go_enter Tryz.func146, Tryz.ntmps146
    go_wp2_with (go_at_call 137; refine (ref_IsOwner _ _).mono ?_; rintro e w' ⟨rfl, rfl⟩)
    go_ret
    exact ⟨by rw [HV.out]; rfl, rfl⟩

set_option maxHeartbeats 400000 in
theorem refq_Value (b sb cap : Nat) (q : QS) (o : Int) (w : World) (h : RPoolAt b sb cap q w) :
    Calls Tryz.prog 79 #[.pointer (some ⟨b, 0, none⟩), .int .i64 o] w fun e w' => e = .returned (.int .i64 (q.value o)) ∧ Dr w w' := by
  have c0 := h.c0
  have H := Lib.hid h
  by_cases hz : q.all = 0
  · have HV := Lib.hid (QS.Ok.value_nil hz o)
    have hA := Lib.hid (refq_All b sb cap q)
    have hz' : (q.all == 0) = true := by simp [hz]
    clear h hz
    go_enter Tryz.func79, Tryz.ntmps79
    go_wp2_with (go_at_call 144; refine (hA.out _ H.out).mono ?_; rintro e w' ⟨rfl, rfl⟩)
    go_ret
    exact ⟨by rw [HV.out]; rfl, Dr.refl _⟩
  · have ho := h.ok.overOk hz o
    have HV := Lib.hid (show q.value o = overN (q.at o) q.total q.all by unfold QS.value; rw [if_neg hz])
    have hz' : (q.all == 0) = false := by simp [hz]
    have hA := Lib.hid (refq_All b sb cap q)
    have hS := Lib.hid (refq_Shares b sb cap q o)
    have hP := Lib.hid (ref_Product_yes ho)
    clear h hz ho
    go_enter Tryz.func79, Tryz.ntmps79
    go_wp2_with (go_at_call 144; refine (hA.out _ H.out).mono ?_; rintro e w' ⟨rfl, rfl⟩)
    go_quiet ((first
      | (go_at_call 144; exact Calls.quiet_of_same ((hA.out _ (H.out.drewN _)).mono fun _ _ ⟨a, b⟩ => ⟨a, b.symm⟩))
      | (go_at_call 146; exact Calls.quiet_of_same ((hS.out _ (H.out.drewN _)).mono fun _ _ ⟨a, b⟩ => ⟨a, b.symm⟩))
      | (go_at_call 145; exact Calls.quiet_of_same ((hP.out _).mono fun _ _ ⟨a, b⟩ => ⟨a, b.symm⟩))))
    go_wp2
    go_ret
    exact ⟨by rw [HV.out]; rfl, _, rfl⟩
end Go.Proofs.YtajnfkmkombajacGreatDoor
