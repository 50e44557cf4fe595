/-
  Contracts of package purse.
  Contracts of package purse: Burn, Out, In, Move.
  Plain: how a chain begins; a stake that changes nothing till the cycles are over. No program in sight.
-/
import Derived.Test.YtajnfkmkombajabGreatDoorQSR07
import Derived.Deep.QuietTactic
import Derived.BigQuiet
import Derived.Test.YtajnfkmkombajabGreatDoorQSR04
import Derived.Test.YtajnfkmkombajabGreatDoorQSR01
import Derived.Test.YtajnfkmkombajabGreatDoorQSR10
import Derived.Outline
import Derived.Test.YtajnfkmkombajabGreatDoorQSR06
set_option linter.unusedVariables false
set_option linter.unusedSimpArgs false
set_option linter.unusedVariables false
namespace Go.Proofs.YtajnfkmkombajabGreatDoor
open Go.RowKit

/-- block b is a purse that holds p -/
structure PurseAt (b : Nat) (p : PS) (w : World) : Prop where
  ok : p.Ok
  row : RowAt b 78 (p.cells.map (Value.int .i64)) w
theorem PurseAt.lt {b : Nat} {p : PS} {w : World} (h : PurseAt b p w) : b < w.heap.size := h.row.lt
theorem PurseAt.keep {F : Nat → Prop} {b : Nat} {p : PS} {w w' : World} (h : PurseAt b p w) (k : Keep F w w') (hF : ¬ F b) : PurseAt b p w' := ⟨h.ok, h.row.keep k hF⟩
theorem PurseAt.drewN {b : Nat} {p : PS} {w : World} (h : PurseAt b p w) (n : Nat) : PurseAt b p (w.drewN n) := ⟨h.ok, h.row⟩
theorem PurseAt.frozen {b : Nat} {p : PS} {w : World} (h : PurseAt b p w) (i : Nat) : w.frozen? ⟨b, i, none⟩ = false := h.row.frozen i
theorem PurseAt.has {b : Nat} {p : PS} {w : World} (h : PurseAt b p w) {k : Nat} (hk : k < 6) : w.cell? ⟨b, k, none⟩ = some (.int .i64 (p.at k)) := by
  rw [h.row.cell, List.getElem?_map, PS.cells, List.getElem?_append_left (by rw [h.ok.six]; exact hk), List.getElem?_eq_getElem (by rw [h.ok.six]; exact hk)]
  simp [PS.at, h.ok.six, hk]
theorem PurseAt.sum {b : Nat} {p : PS} {w : World} (h : PurseAt b p w) : w.cell? ⟨b, 6, none⟩ = some (.int .i64 p.sum) := by
  rw [h.row.cell, List.getElem?_map, PS.cells, List.getElem?_append_right (by rw [h.ok.six]; decide)]; simp [h.ok.six]
theorem PurseAt.supply {b : Nat} {p : PS} {w : World} (h : PurseAt b p w) : w.cell? ⟨b, 7, none⟩ = some (.int .i64 p.supply) := by
  rw [h.row.cell, List.getElem?_map, PS.cells, List.getElem?_append_right (by rw [h.ok.six]; decide)]; simp [h.ok.six]
theorem PurseAt.setSupply {b : Nat} {p : PS} {w : World} (h : PurseAt b p w) (n : Int) (hok : (p.grow n).Ok) : PurseAt b (p.grow n) (w.setCell ⟨b, 7, none⟩ (.int .i64 (p.supply + n))) := by
  refine ⟨hok, ?_⟩
  have := h.row.set 7 (.int .i64 (p.supply + n))
  have e : (p.cells.map (Value.int .i64)).set 7 (.int .i64 (p.supply + n)) = ((p.grow n).cells.map (Value.int .i64)) := by
    have h6 := h.ok.six
    obtain ⟨l, s, u⟩ := p
    match l, h6 with
    | [x0, x1, x2, x3, x4, x5], _ => rfl
  rw [← e]; exact this
theorem PurseAt.setHas {b : Nat} {p : PS} {w : World} (h : PurseAt b p w) {k : Nat} (hk : k < 6) (n : Int) (hok : (p.change k n).Ok) :
    PurseAt b (p.change k n) ((w.setCell ⟨b, k, none⟩ (.int .i64 (p.at k + n))).setCell ⟨b, 6, none⟩ (.int .i64 (p.sum + n))) := by
  refine ⟨hok, ?_⟩
  have := (h.row.set k (.int .i64 (p.at k + n))).set 6 (.int .i64 (p.sum + n))
  have e : ((p.cells.map (Value.int .i64)).set k (.int .i64 (p.at k + n))).set 6 (.int .i64 (p.sum + n)) = ((p.change k n).cells.map (Value.int .i64)) := by
    have h6 := h.ok.six
    obtain ⟨l, s, u⟩ := p
    simp only [PS.at, PS.change, PS.cells, Int.toNat_natCast]
    match l, h6 with
    | [x0, x1, x2, x3, x4, x5], _ =>
      match k, hk with
      | 0, _ => rfl
      | 1, _ => rfl
      | 2, _ => rfl
      | 3, _ => rfl
      | 4, _ => rfl
      | 5, _ => rfl
  rw [← e]; exact this

/-- the one block b may have turned; it is a purse that holds p -/
def PurseP (b : Nat) (p : PS) (w w' : World) : Prop := Keep (· = b) w w' ∧ PurseAt b p w'

theorem purse_New (w : World) :
    Calls Tryz.prog 14 #[] w fun e w' => e = .returned (.pointer (some ⟨w.heap.size, 0, none⟩)) ∧ Below w.heap.size w w' ∧ PurseAt w.heap.size PS.new w' := by
  go_enter Tryz.func14, Tryz.ntmps14
  go_wp2
  go_ret
  exact ⟨rfl, (Below.refl _ _).alloc (Nat.le_refl _) _, PS.new_ok, RowAt.new _ _ _⟩

theorem look_two {o n : Int} (h : ¬ (0 ≤ o ∧ o < 6 ∧ amtB n = true)) : lookC o n = 2 := by
  unfold lookC; rw [if_neg]; simp only [ownB, Bool.and_eq_true, decide_eq_true_eq]; exact fun hh => h ⟨hh.1.1, hh.1.2, hh.2⟩

theorem purse_look (A : Nat → Addr) (S : List Nat) (o n : Int) (w : World) (hE : Errs A S w) (h2 : 2 ∈ S) :
    Calls Tryz.prog 26 #[.int .i64 o, .int .i64 n] w fun e w' => e = .returned (ev A (lookC o n)) ∧ w = w' := by
  have g2 : w.cell? ⟨0, 0, none⟩ = some (.iface 235 (.pointer (some (A 2)))) := hE.cell 2 h2
  by_cases hc : 0 ≤ o ∧ o < 6 ∧ amtB n = true
  · have H := Lib.hid (show ev A (lookC o n) = .nilIface by rw [lookC_zero.2 ⟨ownB_iff.2 ⟨hc.1, hc.2.1⟩, amtB_iff.1 hc.2.2⟩]; rfl)
    obtain ⟨h1, h2', h3⟩ := hc
    go_enter Tryz.func26, Tryz.ntmps26
    go_wp2_with (go_at_call 77; refine (part_Amount _ _).mono ?_; rintro e w' ⟨rfl, rfl⟩)
    go_ret
    exact ⟨by rw [H.out]; rfl, rfl⟩
  · have H := Lib.hid (show ev A (lookC o n) = .iface 235 (.pointer (some (A 2))) by rw [look_two hc]; rfl)
    have hcases : o < 0 ∨ (0 ≤ o ∧ 6 ≤ o) ∨ (0 ≤ o ∧ o < 6 ∧ amtB n = false) := by
      cases h : amtB n
      · simp; omega
      · simp [h] at hc ⊢; omega
    clear hc
    rcases hcases with h1 | ⟨h1, h2'⟩ | ⟨h1, h2', h3⟩
    all_goals
      go_enter Tryz.func26, Tryz.ntmps26
      go_wp2_with (go_at_call 77; refine (part_Amount _ _).mono ?_; rintro e w' ⟨rfl, rfl⟩)
      go_ret
      exact ⟨by rw [H.out]; rfl, rfl⟩

theorem purse_Has (b : Nat) (p : PS) (o : Int) (w : World) (hp : PurseAt b p w) :
    Calls Tryz.prog 56 #[.pointer (some ⟨b, 0, none⟩), .int .i64 o] w fun e w' => e = .returned (.int .i64 (if ownB o then p.at o else 0)) ∧ w = w' := by
  by_cases ho : ownB o = true
  · rw [if_pos ho]
    obtain ⟨h0, h1⟩ := ownB_iff.1 ho
    obtain ⟨k, rfl⟩ := Int.eq_ofNat_of_zero_le h0
    have hk : k < 6 := by omega
    have hc := hp.has hk
    clear ho hp
    generalize p.at (k : Int) = x at *
    go_enter Tryz.func56, Tryz.ntmps56
    go_wp2
    go_ret
    exact ⟨rfl, rfl⟩
  · rw [if_neg ho]
    have hc : o < 0 ∨ (0 ≤ o ∧ 6 ≤ o) := by rw [ownB_iff] at ho; omega
    clear ho hp
    rcases hc with h | ⟨h, h'⟩
    all_goals
      go_enter Tryz.func56, Tryz.ntmps56
      go_wp2
      go_ret
      exact ⟨rfl, rfl⟩

theorem purse_Supply (b : Nat) (p : PS) (w : World) (hp : PurseAt b p w) :
    Calls Tryz.prog 64 #[.pointer (some ⟨b, 0, none⟩)] w fun e w' => e = .returned (.int .i64 p.supply) ∧ w = w' := by
  have hc := hp.supply
  clear hp
  generalize p.supply = x at *
  go_enter Tryz.func64, Tryz.ntmps64
  go_wp2
  go_ret
  exact ⟨rfl, rfl⟩

theorem purse_change (b : Nat) (p : PS) (o n : Int) (w : World) (hp : PurseAt b p w) (ho : ownB o = true) (h1 : 0 ≤ p.at o + n) (h2 : p.sum + n ≤ p.supply) :
    Calls Tryz.prog 28 #[.pointer (some ⟨b, 0, none⟩), .int .i64 o, .int .i64 n] w fun e w' => e = .returned (.tuple #[]) ∧ PurseP b (p.change o n) w w' := by
  obtain ⟨h0, h6⟩ := ownB_iff.1 ho
  obtain ⟨k, rfl⟩ := Int.eq_ofNat_of_zero_le h0
  have hk : k < 6 := by omega
  have hfin := hp.setHas hk n (hp.ok.change ho h1 h2)
  have hc := hp.has hk
  have hs := hp.sum
  have f1 := hp.frozen k
  have f2 := hp.frozen 6
  have b1 := hp.ok.at_bd k
  have b2 := hp.ok.le
  have b3 := hp.ok.most
  have b4 := hp.ok.sum_bd
  have HF := Lib.hid hfin; clear hfin ho hp h0 h6
  generalize hx : p.at (k : Int) = x at *
  generalize hy : p.sum = y at *
  generalize hz : p.supply = z at *
  clear hx hy hz
  go_enter Tryz.func28, Tryz.ntmps28
  go_wp2
  go_region
  go_wp2
  go_end0
  exact ⟨rfl, (((Keep.refl _ _).put _).put _).drew, HF.out.drewN 1⟩

theorem PurseP.refl {b : Nat} {p : PS} {w : World} (h : PurseAt b p w) : PurseP b p w w := ⟨Keep.refl _ _, h⟩
theorem PurseP.trans {b : Nat} {p q : PS} {w w1 w2 : World} (h : PurseP b p w w1) (k : PurseP b q w1 w2) : PurseP b q w w2 := ⟨h.1.trans k.1, k.2⟩


theorem purse_Grow (A : Nat → Addr) (S : List Nat) (b : Nat) (p : PS) (n : Int) (w : World) (hE : Errs A S w) (h2 : 2 ∈ S) (hp : PurseAt b p w) :
    Calls Tryz.prog 27 #[.pointer (some ⟨b, 0, none⟩), .int .i64 n] w fun e w' => e = .returned (ev A (p.growOp n).1) ∧ PurseP b (p.growOp n).2 w w' := by
  have g2 : w.cell? ⟨0, 0, none⟩ = some (.iface 235 (.pointer (some (A 2)))) := hE.cell 2 h2
  clear hE
  have hs := hp.supply
  have f2 := hp.frozen 7
  have b2 := hp.ok.le
  have b3 := hp.ok.most
  have b4 := hp.ok.sum_bd
  by_cases hn : amtB n = true
  · obtain ⟨n0, n1⟩ := amtB_iff.1 hn
    by_cases hm : amtB (p.supply + n) = true
    · have e1 : p.growOp n = (0, p.grow n) := by unfold PS.growOp; rw [hn, hm]; rfl
      have hok : (p.grow n).Ok := by have := PS.growOp_ok hp.ok n; rw [e1] at this; exact this
      have HF := Lib.hid (hp.setSupply n hok)
      have E1 := Lib.hid e1
      clear e1 hp
      generalize p.supply = z at *
      generalize p.sum = y at *
      go_enter Tryz.func27, Tryz.ntmps27
      go_wp2_with (go_at_call 77; refine (part_Amount _ _).mono ?_; rintro e w' ⟨rfl, rfl⟩)
      go_ret
      exact ⟨by rw [E1.out]; rfl, (Keep.refl _ _).put _, by rw [E1.out]; exact HF.out⟩
    · have hm' : amtB (p.supply + n) = false := by simpa using hm
      have E1 := Lib.hid (show p.growOp n = (2, p) by unfold PS.growOp; rw [hn, hm']; rfl)
      have HP := Lib.hid hp
      clear hp hm
      generalize p.supply = z at *
      generalize p.sum = y at *
      go_enter Tryz.func27, Tryz.ntmps27
      go_wp2_with (go_at_call 77; refine (part_Amount _ _).mono ?_; rintro e w' ⟨rfl, rfl⟩)
      go_ret
      exact ⟨by rw [E1.out]; rfl, by rw [E1.out]; exact PurseP.refl HP.out⟩
  · have hn' : amtB n = false := by simpa using hn
    have E1 := Lib.hid (show p.growOp n = (2, p) by unfold PS.growOp; rw [hn']; rfl)
    have HP := Lib.hid hp
    clear hp hn
    go_enter Tryz.func27, Tryz.ntmps27
    go_wp2_with (go_at_call 77; refine (part_Amount _ _).mono ?_; rintro e w' ⟨rfl, rfl⟩)
    go_ret
    exact ⟨by rw [E1.out]; rfl, by rw [E1.out]; exact PurseP.refl HP.out⟩

theorem growOp_c {p : PS} {n : Int} : (p.growOp n).1 = 0 ∧ p.growOp n = (0, p.grow n) ∨ (p.growOp n).1 = 2 ∧ p.growOp n = (2, p) := by
  unfold PS.growOp; split <;> simp

theorem purse_Mint (A : Nat → Addr) (S : List Nat) (b : Nat) (p : PS) (o n : Int) (w : World) (hE : Errs A S w) (h2 : 2 ∈ S) (hp : PurseAt b p w) :
    Calls Tryz.prog 17 #[.pointer (some ⟨b, 0, none⟩), .int .i64 o, .int .i64 n] w fun e w' => e = .returned (ev A (p.mintOp o n).1) ∧ PurseP b (p.mintOp o n).2 w w' := by
  have HE := Lib.hid hE; clear hE
  by_cases hl : lookC o n = 0
  · obtain ⟨ho, hn0, hn1⟩ := lookC_zero.1 hl
    have el : ev A (lookC o n) = .nilIface := by rw [hl]; rfl
    rcases growOp_c (p := p) (n := n) with ⟨g1, g2⟩ | ⟨g1, g2⟩
    · have E1 := Lib.hid (show p.mintOp o n = (0, (p.grow n).change o n) by unfold PS.mintOp; rw [hl, g1]; rfl)
      have eg : ev A (p.growOp n).1 = .nilIface := by rw [g1]; rfl
      have hg : (p.growOp n).2 = p.grow n := by rw [g2]
      have hok := PS.growOp_ok hp.ok n
      rw [hg] at hok
      have c1 : 0 ≤ (p.grow n).at o + n := by have := (hok.at_bd o).1; omega
      have c2 : (p.grow n).sum + n ≤ (p.grow n).supply := by have := hp.ok.le; show p.sum + n ≤ p.supply + n; omega
      have HP := Lib.hid hp
      have HG := Lib.hid hg
      clear hl g1 g2 hp hok hg
      go_enter Tryz.func17, Tryz.ntmps17
      go_wp2_with fail
      refine (purse_look A S _ _ _ HE.out h2).mono ?_
      rintro e w' ⟨rfl, rfl⟩
      rw [el]
      go_wp2_with fail
      refine (purse_Grow A S b p n _ HE.out h2 HP.out).mono ?_
      rintro e w1 ⟨rfl, k1⟩
      rw [eg]
      rw [HG.out] at k1
      have K1 := Lib.hid k1; clear k1
      go_wp2_with fail
      refine (purse_change b (p.grow n) o n _ K1.out.2 ho c1 c2).mono ?_
      rintro e w2 ⟨rfl, k2⟩
      go_wp2
      go_ret
      exact ⟨by rw [E1.out]; rfl, by rw [E1.out]; exact K1.out.trans k2⟩
    · have E1 := Lib.hid (show p.mintOp o n = (2, p) by unfold PS.mintOp; rw [hl, g1]; rfl)
      have eg : ev A (p.growOp n).1 = .iface 235 (.pointer (some (A 2))) := by rw [g1]; rfl
      have hg : (p.growOp n).2 = p := by rw [g2]
      have HP := Lib.hid hp
      have HG := Lib.hid hg
      clear hl g1 g2 hp hg
      go_enter Tryz.func17, Tryz.ntmps17
      go_wp2_with fail
      refine (purse_look A S _ _ _ HE.out h2).mono ?_
      rintro e w' ⟨rfl, rfl⟩
      rw [el]
      go_wp2_with fail
      refine (purse_Grow A S b p n _ HE.out h2 HP.out).mono ?_
      rintro e w1 ⟨rfl, k1⟩
      rw [eg]
      rw [HG.out] at k1
      have K1 := Lib.hid k1; clear k1
      go_wp2
      go_ret
      exact ⟨by rw [E1.out]; rfl, by rw [E1.out]; exact K1.out⟩
  · have hl2 : lookC o n = 2 := by unfold lookC at hl ⊢; split at hl <;> simp_all
    have E1 := Lib.hid (show p.mintOp o n = (2, p) by unfold PS.mintOp; rw [if_pos hl])
    have el : ev A (lookC o n) = .iface 235 (.pointer (some (A 2))) := by rw [hl2]; rfl
    have HP := Lib.hid hp
    clear hl hl2 hp
    go_enter Tryz.func17, Tryz.ntmps17
    go_wp2_with fail
    refine (purse_look A S _ _ _ HE.out h2).mono ?_
    rintro e w' ⟨rfl, rfl⟩
    rw [el]
    go_wp2
    go_ret
    exact ⟨by rw [E1.out]; rfl, by rw [E1.out]; exact PurseP.refl HP.out⟩
end Go.Proofs.YtajnfkmkombajabGreatDoor
namespace Go.Proofs.YtajnfkmkombajabGreatDoor
open Go.RowKit

theorem purse_Burn (A : Nat → Addr) (S : List Nat) (b : Nat) (p : PS) (n : Int) (w : World) (hE : Errs A S w) (h2 : 2 ∈ S) (h6 : 6 ∈ S) (hp : PurseAt b p w) :
    Calls Tryz.prog 142 #[.pointer (some ⟨b, 0, none⟩), .int .i64 n] w fun e w' => e = .returned (ev A (p.burnOp n).1) ∧ PurseP b (p.burnOp n).2 w w' := by
  have g2 : w.cell? ⟨0, 0, none⟩ = some (.iface 235 (.pointer (some (A 2)))) := hE.cell 2 h2
  have g6 : w.cell? ⟨5, 0, none⟩ = some (.iface 235 (.pointer (some (A 6)))) := hE.cell 6 h6
  clear hE
  have hs := hp.supply
  have hy := hp.sum
  have f2 := hp.frozen 7
  have b2 := hp.ok.le
  have b3 := hp.ok.most
  have b4 := hp.ok.sum_bd
  by_cases hn : amtB n = true
  · obtain ⟨n0, n1⟩ := amtB_iff.1 hn
    by_cases hm : p.supply - p.sum < n
    · have E1 := Lib.hid (show p.burnOp n = (6, p) by unfold PS.burnOp; rw [if_neg (by rw [hn]; decide), if_pos hm])
      have HP := Lib.hid hp
      clear hp
      generalize p.supply = z at *
      generalize p.sum = y at *
      go_enter Tryz.func142, Tryz.ntmps142
      go_wp2_with (go_at_call 77; refine (part_Amount _ _).mono ?_; rintro e w' ⟨rfl, rfl⟩)
      go_quiet (fail)
      go_wp2
      go_ret
      exact ⟨by rw [E1.out]; rfl, by rw [E1.out]; exact ⟨(Keep.refl _ _).drewN _, HP.out.drewN _⟩⟩
    · have e1 : p.burnOp n = (0, p.grow (-n)) := by unfold PS.burnOp; rw [if_neg (by rw [hn]; decide), if_neg hm]
      have hok : (p.grow (-n)).Ok := by have := PS.burnOp_ok hp.ok n; rw [e1] at this; exact this
      have hset := hp.setSupply (-n) hok
      rw [show p.supply + -n = p.supply - n by omega] at hset
      have HF := Lib.hid hset
      have E1 := Lib.hid e1
      clear e1 hp hset
      generalize p.supply = z at *
      generalize p.sum = y at *
      go_enter Tryz.func142, Tryz.ntmps142
      go_wp2_with (go_at_call 77; refine (part_Amount _ _).mono ?_; rintro e w' ⟨rfl, rfl⟩)
      go_quiet (fail)
      go_wp2
      go_ret
      exact ⟨by rw [E1.out]; rfl, by rw [E1.out]; exact ⟨((Keep.refl _ _).put _).drewN _, HF.out.drewN _⟩⟩
  · have hn' : amtB n = false := by simpa using hn
    have E1 := Lib.hid (show p.burnOp n = (2, p) by unfold PS.burnOp; rw [if_pos hn'])
    have HP := Lib.hid hp
    clear hp hn
    go_enter Tryz.func142, Tryz.ntmps142
    go_wp2_with (go_at_call 77; refine (part_Amount _ _).mono ?_; rintro e w' ⟨rfl, rfl⟩)
    go_ret
    exact ⟨by rw [E1.out]; rfl, by rw [E1.out]; exact PurseP.refl HP.out⟩

theorem lookC_two {o n : Int} (h : lookC o n ≠ 0) : lookC o n = 2 := by unfold lookC at h ⊢; split at h <;> simp_all

theorem purse_Out (A : Nat → Addr) (S : List Nat) (b : Nat) (p : PS) (o n : Int) (w : World) (hE : Errs A S w) (h2 : 2 ∈ S) (h6 : 6 ∈ S) (hp : PurseAt b p w) :
    Calls Tryz.prog 31 #[.pointer (some ⟨b, 0, none⟩), .int .i64 o, .int .i64 n] w fun e w' => e = .returned (ev A (p.outOp o n).1) ∧ PurseP b (p.outOp o n).2 w w' := by
  have g6 : w.cell? ⟨5, 0, none⟩ = some (.iface 235 (.pointer (some (A 6)))) := hE.cell 6 h6
  have HE := Lib.hid hE; clear hE
  by_cases hl : lookC o n = 0
  · obtain ⟨ho, hn0, hn1⟩ := lookC_zero.1 hl
    have el : ev A (lookC o n) = .nilIface := by rw [hl]; rfl
    obtain ⟨h0, h1⟩ := ownB_iff.1 ho
    obtain ⟨k, rfl⟩ := Int.eq_ofNat_of_zero_le h0
    have hk : k < 6 := by omega
    have hc := hp.has hk
    have b1 := hp.ok.at_bd k
    have b2 := hp.ok.le
    have b3 := hp.ok.most
    by_cases hm : p.at k < n
    · have E1 := Lib.hid (show p.outOp k n = (6, p) by unfold PS.outOp; rw [if_neg (by rw [hl]; decide), if_pos hm])
      have HP := Lib.hid hp
      clear hp hl ho
      generalize p.at k = x at *
      go_enter Tryz.func31, Tryz.ntmps31
      go_wp2_with fail
      refine (purse_look A S _ _ _ HE.out h2).mono ?_
      rintro e w' ⟨rfl, rfl⟩
      rw [el]
      go_wp2_with fail
      go_ret
      exact ⟨by rw [E1.out]; rfl, by rw [E1.out]; exact PurseP.refl HP.out⟩
    · have E1 := Lib.hid (show p.outOp k n = (0, p.change k (-n)) by unfold PS.outOp; rw [if_neg (by rw [hl]; decide), if_neg hm])
      have c1 : 0 ≤ p.at k + -n := by omega
      have c2 : p.sum + -n ≤ p.supply := by omega
      have HP := Lib.hid hp
      have HC := Lib.hid (fun w => fun hw => purse_change b p k (-n) w hw ho c1 c2)
      clear hp hl ho c1
      generalize p.at k = x at *
      go_enter Tryz.func31, Tryz.ntmps31
      go_wp2_with fail
      refine (purse_look A S _ _ _ HE.out h2).mono ?_
      rintro e w' ⟨rfl, rfl⟩
      rw [el]
      go_wp2_with fail
      refine (HC.out _ HP.out).mono ?_
      rintro e w2 ⟨rfl, k2⟩
      go_wp2
      go_ret
      exact ⟨by rw [E1.out]; rfl, by rw [E1.out]; exact k2⟩
  · have hl2 := lookC_two hl
    have E1 := Lib.hid (show p.outOp o n = (2, p) by unfold PS.outOp; rw [if_pos hl])
    have el : ev A (lookC o n) = .iface 235 (.pointer (some (A 2))) := by rw [hl2]; rfl
    have HP := Lib.hid hp
    clear hl hl2 hp
    go_enter Tryz.func31, Tryz.ntmps31
    go_wp2_with fail
    refine (purse_look A S _ _ _ HE.out h2).mono ?_
    rintro e w' ⟨rfl, rfl⟩
    rw [el]
    go_wp2
    go_ret
    exact ⟨by rw [E1.out]; rfl, by rw [E1.out]; exact PurseP.refl HP.out⟩

theorem purse_In (A : Nat → Addr) (S : List Nat) (b : Nat) (p : PS) (o n : Int) (w : World) (hE : Errs A S w) (h2 : 2 ∈ S) (h6 : 6 ∈ S) (hp : PurseAt b p w) :
    Calls Tryz.prog 33 #[.pointer (some ⟨b, 0, none⟩), .int .i64 o, .int .i64 n] w fun e w' => e = .returned (ev A (p.inOp o n).1) ∧ PurseP b (p.inOp o n).2 w w' := by
  have g6 : w.cell? ⟨5, 0, none⟩ = some (.iface 235 (.pointer (some (A 6)))) := hE.cell 6 h6
  have HE := Lib.hid hE; clear hE
  by_cases hl : lookC o n = 0
  · obtain ⟨ho, hn0, hn1⟩ := lookC_zero.1 hl
    have el : ev A (lookC o n) = .nilIface := by rw [hl]; rfl
    have hs := hp.supply
    have hy := hp.sum
    have b1 := hp.ok.at_bd o
    have b2 := hp.ok.le
    have b3 := hp.ok.most
    have b4 := hp.ok.sum_bd
    by_cases hm : p.supply - p.sum < n
    · have E1 := Lib.hid (show p.inOp o n = (6, p) by unfold PS.inOp; rw [if_neg (by rw [hl]; decide), if_pos hm])
      have HP := Lib.hid hp
      clear hp hl ho b1
      generalize p.supply = z at *
      generalize p.sum = y at *
      go_enter Tryz.func33, Tryz.ntmps33
      go_wp2_with fail
      refine (purse_look A S _ _ _ HE.out h2).mono ?_
      rintro e w' ⟨rfl, rfl⟩
      rw [el]
      go_wp2_with fail
      go_quiet (fail)
      go_wp2
      go_ret
      exact ⟨by rw [E1.out]; rfl, by rw [E1.out]; exact ⟨(Keep.refl _ _).drewN _, HP.out.drewN _⟩⟩
    · have E1 := Lib.hid (show p.inOp o n = (0, p.change o n) by unfold PS.inOp; rw [if_neg (by rw [hl]; decide), if_neg hm])
      have c1 : 0 ≤ p.at o + n := by omega
      have c2 : p.sum + n ≤ p.supply := by omega
      have HP := Lib.hid hp
      have HC := Lib.hid (fun w => fun hw => purse_change b p o n w hw ho c1 c2)
      clear hp hl ho c1 b1
      generalize p.supply = z at *
      generalize p.sum = y at *
      go_enter Tryz.func33, Tryz.ntmps33
      go_wp2_with fail
      refine (purse_look A S _ _ _ HE.out h2).mono ?_
      rintro e w' ⟨rfl, rfl⟩
      rw [el]
      go_wp2_with fail
      go_quiet (fail)
      go_wp2_with fail
      refine (HC.out _ (HP.out.drewN _)).mono ?_
      rintro e w2 ⟨rfl, k2⟩
      go_wp2
      go_ret
      exact ⟨by rw [E1.out]; rfl, by rw [E1.out]; exact ⟨((Keep.refl _ _).drewN _).trans k2.1, k2.2⟩⟩
  · have hl2 := lookC_two hl
    have E1 := Lib.hid (show p.inOp o n = (2, p) by unfold PS.inOp; rw [if_pos hl])
    have el : ev A (lookC o n) = .iface 235 (.pointer (some (A 2))) := by rw [hl2]; rfl
    have HP := Lib.hid hp
    clear hl hl2 hp
    go_enter Tryz.func33, Tryz.ntmps33
    go_wp2_with fail
    refine (purse_look A S _ _ _ HE.out h2).mono ?_
    rintro e w' ⟨rfl, rfl⟩
    rw [el]
    go_wp2
    go_ret
    exact ⟨by rw [E1.out]; rfl, by rw [E1.out]; exact PurseP.refl HP.out⟩

theorem outOp_c {p : PS} {o n : Int} : (p.outOp o n).1 = 0 ∨ (p.outOp o n).1 = 2 ∨ (p.outOp o n).1 = 6 := by
  unfold PS.outOp; split
  · simp
  · split <;> simp
theorem ev_ne {A : Nat → Addr} {c : Nat} (h : c ≠ 0) : ev A c = .iface 235 (.pointer (some (A c))) := if_neg h

/-- the errors' variables do not lie in block b -/
def Far (S : List Nat) (b : Nat) : Prop := ∀ c, c ∈ S → gE c ≠ b
theorem Errs.pp {A : Nat → Addr} {S : List Nat} {b : Nat} {p : PS} {w w' : World} (h : Errs A S w) (hf : Far S b) (k : PurseP b p w w') : Errs A S w' := h.keep k.1 hf

theorem purse_Move (A : Nat → Addr) (S : List Nat) (b : Nat) (p : PS) (x y n : Int) (w : World) (hE : Errs A S w) (h2 : 2 ∈ S) (h6 : 6 ∈ S) (hf : Far S b) (hp : PurseAt b p w) :
    Calls Tryz.prog 85 #[.pointer (some ⟨b, 0, none⟩), .int .i64 x, .int .i64 y, .int .i64 n] w fun e w' => e = .returned (ev A (p.moveOp x y n).1) ∧ PurseP b (p.moveOp x y n).2 w w' := by
  have HE := Lib.hid hE; clear hE
  by_cases hl : lookC y n = 0
  · have el : ev A (lookC y n) = .nilIface := by rw [hl]; rfl
    by_cases ho : (p.outOp x n).1 = 0
    · have E1 := Lib.hid (show p.moveOp x y n = (p.outOp x n).2.inOp y n by unfold PS.moveOp; rw [hl, ho]; rfl)
      have eo : ev A (p.outOp x n).1 = .nilIface := by rw [ho]; rfl
      have HP := Lib.hid hp
      clear hp hl ho
      go_enter Tryz.func85, Tryz.ntmps85
      go_wp2_with fail
      refine (purse_look A S _ _ _ HE.out h2).mono ?_
      rintro e w' ⟨rfl, rfl⟩
      rw [el]
      go_wp2_with fail
      refine (purse_Out A S b p x n _ HE.out h2 h6 HP.out).mono ?_
      rintro e w1 ⟨rfl, k1⟩
      rw [eo]
      have K1 := Lib.hid k1; clear k1
      go_wp2_with fail
      refine (purse_In A S b _ y n _ (HE.out.pp hf K1.out) h2 h6 K1.out.2).mono ?_
      rintro e w2 ⟨rfl, k2⟩
      have K2 := Lib.hid k2; clear k2
      go_wp2
      go_ret
      exact ⟨by rw [E1.out]; rfl, by rw [E1.out]; exact K1.out.trans K2.out⟩
    · have E1 := Lib.hid (show p.moveOp x y n = p.outOp x n by unfold PS.moveOp; rw [if_neg (by rw [hl]; decide), if_pos ho])
      have eo : ev A (p.outOp x n).1 = .iface 235 (.pointer (some (A (p.outOp x n).1))) := ev_ne ho
      have HP := Lib.hid hp
      clear hp hl ho
      go_enter Tryz.func85, Tryz.ntmps85
      go_wp2_with fail
      refine (purse_look A S _ _ _ HE.out h2).mono ?_
      rintro e w' ⟨rfl, rfl⟩
      rw [el]
      go_wp2_with fail
      refine (purse_Out A S b p x n _ HE.out h2 h6 HP.out).mono ?_
      rintro e w1 ⟨rfl, k1⟩
      rw [eo]
      have K1 := Lib.hid k1; have EO := Lib.hid eo; clear k1 eo
      go_wp2
      go_ret
      exact ⟨by rw [E1.out, EO.out]; rfl, by rw [E1.out]; exact K1.out⟩
  · have hl2 := lookC_two hl
    have E1 := Lib.hid (show p.moveOp x y n = (2, p) by unfold PS.moveOp; rw [if_pos hl])
    have el : ev A (lookC y n) = .iface 235 (.pointer (some (A 2))) := by rw [hl2]; rfl
    have HP := Lib.hid hp
    clear hl hl2 hp
    go_enter Tryz.func85, Tryz.ntmps85
    go_wp2_with fail
    refine (purse_look A S _ _ _ HE.out h2).mono ?_
    rintro e w' ⟨rfl, rfl⟩
    rw [el]
    go_wp2
    go_ret
    exact ⟨by rw [E1.out]; rfl, by rw [E1.out]; exact PurseP.refl HP.out⟩
end Go.Proofs.YtajnfkmkombajabGreatDoor
namespace Go.Proofs.YtajnfkmkombajabGreatDoor
open Go.RowKit

/-- the purse when k owners have their first -/
def PS.first (k : Nat) : PS := ⟨List.replicate k 10000 ++ List.replicate (6 - k) 0, 10000 * k, 10000 * k⟩
theorem PS.first_step {k : Nat} (h : k < 6) : (PS.first k).mintOp k 10000 = (0, PS.first (k + 1)) := by
  match k, h with
  | 0, _ => rfl
  | 1, _ => rfl
  | 2, _ => rfl
  | 3, _ => rfl
  | 4, _ => rfl
  | 5, _ => rfl
theorem PS.first_zero : PS.first 0 = PS.new := rfl
/-- a pool with a first stake of owner k -/
def QS.first (k : Nat) : QS := ⟨1000, 1000, [0, 0, 0, 0, 0, 0].set k 1000⟩
/-- purse and stakes when k bakers have begun -/
def firstP (k : Nat) : PS := ⟨List.replicate k 9000 ++ List.replicate (6 - k) 10000, 60000 - 1000 * k, 60000⟩
def firstS (k : Nat) : SS := ⟨(List.range k).map (fun i => some (QS.first i)) ++ List.replicate (3 - k) none, []⟩
def firstC (k : Nat) (pics : List (List Int)) : CS := ⟨firstP k, firstS k, KS.new, 0, 0, 0, pics⟩
theorem first_reg {k : Nat} (h : k < 3) : ∃ s, (firstS k).regOp k = (0, s) ∧ ∀ pics, CS.stakeOp ⟨firstP k, s, KS.new, 0, 0, 0, pics⟩ k k 1000 = (0, firstC (k + 1) pics) := by
  match k, h with
  | 0, _ => exact ⟨_, rfl, fun _ => rfl⟩
  | 1, _ => exact ⟨_, rfl, fun _ => rfl⟩
  | 2, _ => exact ⟨_, rfl, fun _ => rfl⟩
def pic0 : List Int := [1000, 1000, 1000]
def CS.new : CS := firstC 3 [pic0, pic0, pic0]
theorem first_picture (pics : List (List Int)) : (firstC 3 pics).s.picture = pic0 := show (firstS 3).picture = pic0 by decide
theorem firstP_ok : (firstP 3).Ok := by
  refine ⟨by decide, ?_, by decide, by decide, by decide⟩
  decide
theorem firstS_ok : (firstS 3).Ok := by
  have h0 : (firstS 3).Ok := by
    have a0 := SS.new_ok
    have a1 := SS.joinOp_ok (SS.regOp_ok a0 0) 0 0 1000
    have a2 := SS.joinOp_ok (SS.regOp_ok a1 1) 1 1 1000
    have a3 := SS.joinOp_ok (SS.regOp_ok a2 2) 2 2 1000
    exact a3
  exact h0
theorem CS.new_inv : CS.new.Inv := by
  refine ⟨firstP_ok, firstS_ok, fun k h0 h3 => ?_, by decide, (fun x hx => by cases hx), Nat.le_refl _, by decide, by decide, rfl, fun l hl => ?_, by decide, by decide⟩
  · obtain ⟨j, rfl⟩ := Int.eq_ofNat_of_zero_le h0
    match j, (by omega : j < 3) with
    | 0, _ => rfl
    | 1, _ => rfl
    | 2, _ => rfl
  · have : l = pic0 := by
      have hl' : l ∈ [pic0, pic0, pic0] := hl
      simpa using hl'
    subst this
    refine ⟨rfl, ?_, by decide⟩
    decide

/-! ### till the cycles are over -/
/-- i blocks have been baked; the pictures of the first cycles are still those of the beginning -/
structure Early (i : Nat) (c : CS) : Prop where
  inv : c.Inv
  level : c.level = i
  cycle : c.cycle = ((i / 4 : Nat) : Int)
  pics : ∀ j, j + i / 4 < 3 → c.pics[j]? = some pic0
theorem Early.new : Early 0 CS.new := ⟨CS.new_inv, rfl, rfl, fun j hj => by
  match j, (by omega : j < 3) with
  | 0, _ => rfl
  | 1, _ => rfl
  | 2, _ => rfl⟩
theorem Early.stake {i : Nat} {c : CS} (h : Early i c) (o b n : Int) : Early i (c.stakeOp o b n).2 := by
  have e : (c.stakeOp o b n).2.level = c.level ∧ (c.stakeOp o b n).2.cycle = c.cycle ∧ (c.stakeOp o b n).2.pics = c.pics := by
    unfold CS.stakeOp; split
    · exact ⟨rfl, rfl, rfl⟩
    · split <;> exact ⟨rfl, rfl, rfl⟩
  exact ⟨(CS.stake_inv h.inv o b n).1, e.1.trans h.level, e.2.1.trans h.cycle, fun j hj => by rw [e.2.2]; exact h.pics j hj⟩
theorem CS.reward_keeps (c : CS) (b : Int) : (c.reward b).2.pics = c.pics ∧ (c.reward b).2.k = c.k ∧ (c.reward b).2.bonus = c.bonus := by
  unfold CS.reward; split
  · exact ⟨rfl, rfl, rfl⟩
  · split
    · exact ⟨rfl, rfl, rfl⟩
    · split <;> exact ⟨rfl, rfl, rfl⟩
theorem CS.judges_pics : ∀ (l : List (Int × EV)) (c : CS), (l.foldl CS.judge c).pics = c.pics ∧ (l.foldl CS.judge c).cycle = c.cycle ∧ (l.foldl CS.judge c).level = c.level
  | [], _ => ⟨rfl, rfl, rfl⟩
  | x :: l, c => CS.judges_pics l (c.judge x)
theorem Early.bake {i : Nat} {c : CS} (h : Early i c) (b : Int) : Early (i + 1) ((c.reward b).2.stepOp) := by
  obtain ⟨h1, h2, h3, h4, h5⟩ := CS.reward_inv h.inv b
  obtain ⟨k1, k2, k3⟩ := CS.reward_keeps c b
  obtain ⟨s1, s2, s3, s4, s5⟩ := CS.step_inv h1
  have hl := h.level
  refine ⟨s1, by rw [s4, h5, hl]; omega, ?_, fun j hj => ?_⟩
  · unfold CS.stepOp
    rw [h5, hl]
    by_cases hd : ((i : Int) + 1) % 4 = 0
    · rw [if_pos hd]
      show (CS.judged _).cycle + 1 = _
      unfold CS.judged
      rw [(CS.judges_pics _ _).2.1]
      show (c.reward b).2.cycle + 1 = _
      rw [h4, h.cycle]; omega
    · rw [if_neg hd]
      show (c.reward b).2.cycle = _
      rw [h4, h.cycle]; omega
  · unfold CS.stepOp
    rw [h5, hl]
    by_cases hd : ((i : Int) + 1) % 4 = 0
    · rw [if_pos hd]
      show ((CS.judged _).pics.drop 1 ++ [_])[j]? = _
      unfold CS.judged
      rw [(CS.judges_pics _ _).1]
      show ((c.reward b).2.pics.drop 1 ++ [_])[j]? = _
      have hl3 : c.pics.length = 3 := h.inv.three
      rw [k1, List.getElem?_append_left (by rw [List.length_drop, hl3]; omega), List.getElem?_drop]
      exact h.pics (1 + j) (by omega)
    · rw [if_neg hd]
      show (c.reward b).2.pics[j]? = _
      rw [k1]
      exact h.pics j (by omega)
theorem first_join {q : QS} (ht : q.total = 1000) (ha : q.all = 1000) {o n : Int} (ho : ownB o = true) (hn : 1 ≤ n) (hn5 : n ≤ 5000) : (q.joinOp o n).1 = 0 := by
  have hl : plookC o n = 0 := plookC_zero.2 ⟨ho, hn, by omega⟩
  have e : n * 1000 / 1000 = n := Int.mul_ediv_cancel n (by decide)
  obtain ⟨y1, y2, _⟩ := over_yes (show overOk n 1000 1000 from ⟨⟨by omega, by omega⟩, ⟨by omega, by omega⟩, by omega, by rw [e]; omega⟩)
  rw [e] at y2
  have hc : q.joinC n = 0 := by unfold QS.joinC; rw [if_pos (by omega), ht, ha, y1]
  have hs : q.joinS n = n := by unfold QS.joinS; rw [if_pos (by omega), ht, ha, y2]
  unfold QS.joinOp
  rw [if_neg (by simp [hl]), if_neg (by omega), if_neg (by simp [hc]), hs, if_neg (by omega), if_neg (by omega)]
theorem later_stake {o b n : Int} (ho : 0 ≤ o) (ho6 : o < 6) (hb : 0 ≤ b) (hb3 : b < 3) (hn : 1 ≤ n) (hn5 : n ≤ 5000) : (CS.new.stakeOp o b n).1 = 0 := by
  have hob : ownB o = true := ownB_iff.2 ⟨ho, ho6⟩
  have hl : lookC o n = 0 := lookC_zero.2 ⟨hob, by omega, by omega⟩
  have hat : 9000 ≤ CS.new.p.at o := by
    obtain ⟨k, rfl⟩ := Int.eq_ofNat_of_zero_le ho
    match k, (by omega : k < 6) with
    | 0, _ => decide
    | 1, _ => decide
    | 2, _ => decide
    | 3, _ => decide
    | 4, _ => decide
    | 5, _ => decide
  have h1 : (CS.new.p.outOp o n).1 = 0 := by
    unfold PS.outOp; rw [if_neg (by simp [hl]), if_neg (by omega)]
  have h2 : (CS.new.s.joinOp o b n).1 = 0 := by
    obtain ⟨k, rfl⟩ := Int.eq_ofNat_of_zero_le hb
    have : ∃ q, CS.new.s.pool k = some q ∧ q.total = 1000 ∧ q.all = 1000 := by
      match k, (by omega : k < 3) with
      | 0, _ => exact ⟨_, rfl, rfl, rfl⟩
      | 1, _ => exact ⟨_, rfl, rfl, rfl⟩
      | 2, _ => exact ⟨_, rfl, rfl, rfl⟩
    obtain ⟨q, hq, ht, ha⟩ := this
    unfold SS.joinOp; rw [hq]
    exact first_join ht ha hob hn hn5
  unfold CS.stakeOp
  rw [if_neg (by simp [h1]), if_neg (by simp [h2])]
end Go.Proofs.YtajnfkmkombajabGreatDoor
