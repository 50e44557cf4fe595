/-
  Contracts of package purse.
  Contracts of package purse: Burn, Out, In, Move.
  Plain: how a chain begins; a stake that changes nothing till the cycles are over. No program in sight.
  A chain of package chain in memory: how it lies; steps of its parts.
-/
import Derived.Test.YtajnfkmkombajaaGreatDoorQSP05
import Derived.Deep.QuietTactic
import Derived.BigQuiet
import Derived.Test.YtajnfkmkombajaaGreatDoorQSP03
import Derived.Test.YtajnfkmkombajaaGreatDoorQSP01
import Derived.Test.YtajnfkmkombajaaGreatDoorQSP09
import Derived.Outline
import Derived.Test.YtajnfkmkombajaaGreatDoorQSP04
import Derived.Test.YtajnfkmkombajaaGreatDoorQSP12
import Derived.Test.YtajnfkmkombajaaGreatDoorQSP13
set_option linter.unusedVariables false
set_option linter.unusedSimpArgs false
set_option linter.unusedVariables false
namespace Go.Proofs.YtajnfkmkombajaaGreatDoor
open Go.RowKit
structure PurseAt (b : Nat) (p : PS) (w : World) : Prop where
 ok : p.Ok
 row : RowAt b 139 (p.cells.map (Value.int .i64)) w
theorem PurseAt.lt {b : Nat} {p : PS} {w : World} (h : PurseAt b p w) : b < w.heap.size := h.row.lt
theorem PurseAt.keep {F : Nat → Prop} {b : Nat} {p : PS} {w w' : World} (h : PurseAt b p w) (k : Keep F w w') (hF : ¬ F b) : PurseAt b p w' := ⟨h.ok, h.row.keep k hF⟩
theorem PurseAt.drewN {b : Nat} {p : PS} {w : World} (h : PurseAt b p w) (n : Nat) : PurseAt b p (w.drewN n) := ⟨h.ok, h.row⟩
theorem PurseAt.frozen {b : Nat} {p : PS} {w : World} (h : PurseAt b p w) (i : Nat) : w.frozen? ⟨b, i, none⟩ = false := h.row.frozen i
theorem PurseAt.has {b : Nat} {p : PS} {w : World} (h : PurseAt b p w) {k : Nat} (hk : k < 6) : w.cell? ⟨b, k, none⟩ = some (.int .i64 (p.at k)) := by
 rw [h.row.cell, List.getElem?_map, PS.cells, List.getElem?_append_left (by rw [h.ok.six]; exact hk), List.getElem?_eq_getElem (by rw [h.ok.six]; exact hk)]
 simp [PS.at, h.ok.six, hk]
theorem PurseAt.sum {b : Nat} {p : PS} {w : World} (h : PurseAt b p w) : w.cell? ⟨b, 6, none⟩ = some (.int .i64 p.sum) := by
 rw [h.row.cell, List.getElem?_map, PS.cells, List.getElem?_append_right (by rw [h.ok.six]; decide)]; simp [h.ok.six]
theorem PurseAt.supply {b : Nat} {p : PS} {w : World} (h : PurseAt b p w) : w.cell? ⟨b, 7, none⟩ = some (.int .i64 p.supply) := by
 rw [h.row.cell, List.getElem?_map, PS.cells, List.getElem?_append_right (by rw [h.ok.six]; decide)]; simp [h.ok.six]
theorem PurseAt.setSupply {b : Nat} {p : PS} {w : World} (h : PurseAt b p w) (n : Int) (hok : (p.grow n).Ok) : PurseAt b (p.grow n) (w.setCell ⟨b, 7, none⟩ (.int .i64 (p.supply + n))) := by
 refine ⟨hok, ?_⟩
 have := h.row.set 7 (.int .i64 (p.supply + n))
 have e : (p.cells.map (Value.int .i64)).set 7 (.int .i64 (p.supply + n)) = ((p.grow n).cells.map (Value.int .i64)) := by
   have h6 := h.ok.six
   obtain ⟨l, s, u⟩ := p
   match l, h6 with
   | [x0, x1, x2, x3, x4, x5], _ => rfl
 rw [← e]; exact this
theorem PurseAt.setHas {b : Nat} {p : PS} {w : World} (h : PurseAt b p w) {k : Nat} (hk : k < 6) (n : Int) (hok : (p.change k n).Ok) :
   PurseAt b (p.change k n) ((w.setCell ⟨b, k, none⟩ (.int .i64 (p.at k + n))).setCell ⟨b, 6, none⟩ (.int .i64 (p.sum + n))) := by
 refine ⟨hok, ?_⟩
 have := (h.row.set k (.int .i64 (p.at k + n))).set 6 (.int .i64 (p.sum + n))
 have e : ((p.cells.map (Value.int .i64)).set k (.int .i64 (p.at k + n))).set 6 (.int .i64 (p.sum + n)) = ((p.change k n).cells.map (Value.int .i64)) := by
   have h6 := h.ok.six
   obtain ⟨l, s, u⟩ := p
   simp only [PS.at, PS.change, PS.cells, Int.toNat_natCast]
   match l, h6 with
   | [x0, x1, x2, x3, x4, x5], _ =>
     match k, hk with
     | 0, _ => rfl
     | 1, _ => rfl
     | 2, _ => rfl
     | 3, _ => rfl
     | 4, _ => rfl
     | 5, _ => rfl
 rw [← e]; exact this
def PurseP (b : Nat) (p : PS) (w w' : World) : Prop := Keep (· = b) w w' ∧ PurseAt b p w'
theorem purse_New (w : World) :
   Calls Tryz.prog 49 #[] w fun e w' => e = .returned (.pointer (some ⟨w.heap.size, 0, none⟩)) ∧ Below w.heap.size w w' ∧ PurseAt w.heap.size PS.new w' := by
 go_enter Tryz.func49, Tryz.ntmps49
 go_wp2
 go_ret
 exact ⟨rfl, (Below.refl _ _).alloc (Nat.le_refl _) _, PS.new_ok, RowAt.new _ _ _⟩
theorem look_two {o n : Int} (h : ¬ (0 ≤ o ∧ o < 6 ∧ amtB n = true)) : lookC o n = 2 := by
 unfold lookC; rw [if_neg]; simp only [ownB, Bool.and_eq_true, decide_eq_true_eq]; exact fun hh => h ⟨hh.1.1, hh.1.2, hh.2⟩
theorem purse_look (A : Nat → Addr) (S : List Nat) (o n : Int) (w : World) (hE : Errs A S w) (h2 : 2 ∈ S) :
   Calls Tryz.prog 79 #[.int .i64 o, .int .i64 n] w fun e w' => e = .returned (ev A (lookC o n)) ∧ w = w' := by
 have g2 : w.cell? ⟨0, 0, none⟩ = some (.iface 288 (.pointer (some (A 2)))) := hE.cell 2 h2
 by_cases hc : 0 ≤ o ∧ o < 6 ∧ amtB n = true
 · have H := Lib.hid (show ev A (lookC o n) = .nilIface by rw [lookC_zero.2 ⟨ownB_iff.2 ⟨hc.1, hc.2.1⟩, amtB_iff.1 hc.2.2⟩]; rfl)
   obtain ⟨h1, h2', h3⟩ := hc
   go_enter Tryz.func79, Tryz.ntmps79
   go_wp2_with (go_at_call 137; refine (part_Amount _ _).mono ?_; rintro e w' ⟨rfl, rfl⟩)
   go_ret
   exact ⟨by rw [H.out]; rfl, rfl⟩
 · have H := Lib.hid (show ev A (lookC o n) = .iface 288 (.pointer (some (A 2))) by rw [look_two hc]; rfl)
   have hcases : o < 0 ∨ (0 ≤ o ∧ 6 ≤ o) ∨ (0 ≤ o ∧ o < 6 ∧ amtB n = false) := by
     cases h : amtB n
     · simp; omega
     · simp [h] at hc ⊢; omega
   clear hc
   rcases hcases with h1 | ⟨h1, h2'⟩ | ⟨h1, h2', h3⟩
   all_goals
     go_enter Tryz.func79, Tryz.ntmps79
     go_wp2_with (go_at_call 137; refine (part_Amount _ _).mono ?_; rintro e w' ⟨rfl, rfl⟩)
     go_ret
     exact ⟨by rw [H.out]; rfl, rfl⟩
theorem purse_Has (b : Nat) (p : PS) (o : Int) (w : World) (hp : PurseAt b p w) :
   Calls Tryz.prog 109 #[.pointer (some ⟨b, 0, none⟩), .int .i64 o] w fun e w' => e = .returned (.int .i64 (if ownB o then p.at o else 0)) ∧ w = w' := by
 by_cases ho : ownB o = true
 · rw [if_pos ho]
   obtain ⟨h0, h1⟩ := ownB_iff.1 ho
   obtain ⟨k, rfl⟩ := Int.eq_ofNat_of_zero_le h0
   have hk : k < 6 := by omega
   have hc := hp.has hk
   clear ho hp
   generalize p.at (k : Int) = x at *
   go_enter Tryz.func109, Tryz.ntmps109
   go_wp2
   go_ret
   exact ⟨rfl, rfl⟩
 · rw [if_neg ho]
   have hc : o < 0 ∨ (0 ≤ o ∧ 6 ≤ o) := by rw [ownB_iff] at ho; omega
   clear ho hp
   rcases hc with h | ⟨h, h'⟩
   all_goals
     go_enter Tryz.func109, Tryz.ntmps109
     go_wp2
     go_ret
     exact ⟨rfl, rfl⟩
theorem purse_Supply (b : Nat) (p : PS) (w : World) (hp : PurseAt b p w) :
   Calls Tryz.prog 117 #[.pointer (some ⟨b, 0, none⟩)] w fun e w' => e = .returned (.int .i64 p.supply) ∧ w = w' := by
 have hc := hp.supply
 clear hp
 generalize p.supply = x at *
 go_enter Tryz.func117, Tryz.ntmps117
 go_wp2
 go_ret
 exact ⟨rfl, rfl⟩
theorem purse_change (b : Nat) (p : PS) (o n : Int) (w : World) (hp : PurseAt b p w) (ho : ownB o = true) (h1 : 0 ≤ p.at o + n) (h2 : p.sum + n ≤ p.supply) :
   Calls Tryz.prog 81 #[.pointer (some ⟨b, 0, none⟩), .int .i64 o, .int .i64 n] w fun e w' => e = .returned (.tuple #[]) ∧ PurseP b (p.change o n) w w' := by
 obtain ⟨h0, h6⟩ := ownB_iff.1 ho
 obtain ⟨k, rfl⟩ := Int.eq_ofNat_of_zero_le h0
 have hk : k < 6 := by omega
 have hfin := hp.setHas hk n (hp.ok.change ho h1 h2)
 have hc := hp.has hk
 have hs := hp.sum
 have f1 := hp.frozen k
 have f2 := hp.frozen 6
 have b1 := hp.ok.at_bd k
 have b2 := hp.ok.le
 have b3 := hp.ok.most
 have b4 := hp.ok.sum_bd
 have HF := Lib.hid hfin; clear hfin ho hp h0 h6
 generalize hx : p.at (k : Int) = x at *
 generalize hy : p.sum = y at *
 generalize hz : p.supply = z at *
 clear hx hy hz
 go_enter Tryz.func81, Tryz.ntmps81
 go_wp2
 go_region
 go_wp2
 go_end0
 exact ⟨rfl, (((Keep.refl _ _).put _).put _).drew, HF.out.drewN 1⟩
theorem PurseP.refl {b : Nat} {p : PS} {w : World} (h : PurseAt b p w) : PurseP b p w w := ⟨Keep.refl _ _, h⟩
theorem PurseP.trans {b : Nat} {p q : PS} {w w1 w2 : World} (h : PurseP b p w w1) (k : PurseP b q w1 w2) : PurseP b q w w2 := ⟨h.1.trans k.1, k.2⟩
theorem purse_Grow (A : Nat → Addr) (S : List Nat) (b : Nat) (p : PS) (n : Int) (w : World) (hE : Errs A S w) (h2 : 2 ∈ S) (hp : PurseAt b p w) :
   Calls Tryz.prog 80 #[.pointer (some ⟨b, 0, none⟩), .int .i64 n] w fun e w' => e = .returned (ev A (p.growOp n).1) ∧ PurseP b (p.growOp n).2 w w' := by
 have g2 : w.cell? ⟨0, 0, none⟩ = some (.iface 288 (.pointer (some (A 2)))) := hE.cell 2 h2
 clear hE
 have hs := hp.supply
 have f2 := hp.frozen 7
 have b2 := hp.ok.le
 have b3 := hp.ok.most
 have b4 := hp.ok.sum_bd
 by_cases hn : amtB n = true
 · obtain ⟨n0, n1⟩ := amtB_iff.1 hn
   by_cases hm : amtB (p.supply + n) = true
   · have e1 : p.growOp n = (0, p.grow n) := by unfold PS.growOp; rw [hn, hm]; rfl
     have hok : (p.grow n).Ok := by have := PS.growOp_ok hp.ok n; rw [e1] at this; exact this
     have HF := Lib.hid (hp.setSupply n hok)
     have E1 := Lib.hid e1
     clear e1 hp
     generalize p.supply = z at *
     generalize p.sum = y at *
     go_enter Tryz.func80, Tryz.ntmps80
     go_wp2_with (go_at_call 137; refine (part_Amount _ _).mono ?_; rintro e w' ⟨rfl, rfl⟩)
     go_ret
     exact ⟨by rw [E1.out]; rfl, (Keep.refl _ _).put _, by rw [E1.out]; exact HF.out⟩
   · have hm' : amtB (p.supply + n) = false := by simpa using hm
     have E1 := Lib.hid (show p.growOp n = (2, p) by unfold PS.growOp; rw [hn, hm']; rfl)
     have HP := Lib.hid hp
     clear hp hm
     generalize p.supply = z at *
     generalize p.sum = y at *
     go_enter Tryz.func80, Tryz.ntmps80
     go_wp2_with (go_at_call 137; refine (part_Amount _ _).mono ?_; rintro e w' ⟨rfl, rfl⟩)
     go_ret
     exact ⟨by rw [E1.out]; rfl, by rw [E1.out]; exact PurseP.refl HP.out⟩
 · have hn' : amtB n = false := by simpa using hn
   have E1 := Lib.hid (show p.growOp n = (2, p) by unfold PS.growOp; rw [hn']; rfl)
   have HP := Lib.hid hp
   clear hp hn
   go_enter Tryz.func80, Tryz.ntmps80
   go_wp2_with (go_at_call 137; refine (part_Amount _ _).mono ?_; rintro e w' ⟨rfl, rfl⟩)
   go_ret
   exact ⟨by rw [E1.out]; rfl, by rw [E1.out]; exact PurseP.refl HP.out⟩
theorem growOp_c {p : PS} {n : Int} : (p.growOp n).1 = 0 ∧ p.growOp n = (0, p.grow n) ∨ (p.growOp n).1 = 2 ∧ p.growOp n = (2, p) := by
 unfold PS.growOp; split <;> simp
theorem purse_Mint (A : Nat → Addr) (S : List Nat) (b : Nat) (p : PS) (o n : Int) (w : World) (hE : Errs A S w) (h2 : 2 ∈ S) (hp : PurseAt b p w) :
   Calls Tryz.prog 52 #[.pointer (some ⟨b, 0, none⟩), .int .i64 o, .int .i64 n] w fun e w' => e = .returned (ev A (p.mintOp o n).1) ∧ PurseP b (p.mintOp o n).2 w w' := by
 have HE := Lib.hid hE; clear hE
 by_cases hl : lookC o n = 0
 · obtain ⟨ho, hn0, hn1⟩ := lookC_zero.1 hl
   have el : ev A (lookC o n) = .nilIface := by rw [hl]; rfl
   rcases growOp_c (p := p) (n := n) with ⟨g1, g2⟩ | ⟨g1, g2⟩
   · have E1 := Lib.hid (show p.mintOp o n = (0, (p.grow n).change o n) by unfold PS.mintOp; rw [hl, g1]; rfl)
     have eg : ev A (p.growOp n).1 = .nilIface := by rw [g1]; rfl
     have hg : (p.growOp n).2 = p.grow n := by rw [g2]
     have hok := PS.growOp_ok hp.ok n
     rw [hg] at hok
     have c1 : 0 ≤ (p.grow n).at o + n := by have := (hok.at_bd o).1; omega
     have c2 : (p.grow n).sum + n ≤ (p.grow n).supply := by have := hp.ok.le; show p.sum + n ≤ p.supply + n; omega
     have HP := Lib.hid hp
     have HG := Lib.hid hg
     clear hl g1 g2 hp hok hg
     go_enter Tryz.func52, Tryz.ntmps52
     go_wp2_with fail
     refine (purse_look A S _ _ _ HE.out h2).mono ?_
     rintro e w' ⟨rfl, rfl⟩
     rw [el]
     go_wp2_with fail
     refine (purse_Grow A S b p n _ HE.out h2 HP.out).mono ?_
     rintro e w1 ⟨rfl, k1⟩
     rw [eg]
     rw [HG.out] at k1
     have K1 := Lib.hid k1; clear k1
     go_wp2_with fail
     refine (purse_change b (p.grow n) o n _ K1.out.2 ho c1 c2).mono ?_
     rintro e w2 ⟨rfl, k2⟩
     go_wp2
     go_ret
     exact ⟨by rw [E1.out]; rfl, by rw [E1.out]; exact K1.out.trans k2⟩
   · have E1 := Lib.hid (show p.mintOp o n = (2, p) by unfold PS.mintOp; rw [hl, g1]; rfl)
     have eg : ev A (p.growOp n).1 = .iface 288 (.pointer (some (A 2))) := by rw [g1]; rfl
     have hg : (p.growOp n).2 = p := by rw [g2]
     have HP := Lib.hid hp
     have HG := Lib.hid hg
     clear hl g1 g2 hp hg
     go_enter Tryz.func52, Tryz.ntmps52
     go_wp2_with fail
     refine (purse_look A S _ _ _ HE.out h2).mono ?_
     rintro e w' ⟨rfl, rfl⟩
     rw [el]
     go_wp2_with fail
     refine (purse_Grow A S b p n _ HE.out h2 HP.out).mono ?_
     rintro e w1 ⟨rfl, k1⟩
     rw [eg]
     rw [HG.out] at k1
     have K1 := Lib.hid k1; clear k1
     go_wp2
     go_ret
     exact ⟨by rw [E1.out]; rfl, by rw [E1.out]; exact K1.out⟩
 · have hl2 : lookC o n = 2 := by unfold lookC at hl ⊢; split at hl <;> simp_all
   have E1 := Lib.hid (show p.mintOp o n = (2, p) by unfold PS.mintOp; rw [if_pos hl])
   have el : ev A (lookC o n) = .iface 288 (.pointer (some (A 2))) := by rw [hl2]; rfl
   have HP := Lib.hid hp
   clear hl hl2 hp
   go_enter Tryz.func52, Tryz.ntmps52
   go_wp2_with fail
   refine (purse_look A S _ _ _ HE.out h2).mono ?_
   rintro e w' ⟨rfl, rfl⟩
   rw [el]
   go_wp2
   go_ret
   exact ⟨by rw [E1.out]; rfl, by rw [E1.out]; exact PurseP.refl HP.out⟩
end Go.Proofs.YtajnfkmkombajaaGreatDoor
namespace Go.Proofs.YtajnfkmkombajaaGreatDoor
open Go.RowKit
theorem purse_Burn (A : Nat → Addr) (S : List Nat) (b : Nat) (p : PS) (n : Int) (w : World) (hE : Errs A S w) (h2 : 2 ∈ S) (h6 : 6 ∈ S) (hp : PurseAt b p w) :
   Calls Tryz.prog 204 #[.pointer (some ⟨b, 0, none⟩), .int .i64 n] w fun e w' => e = .returned (ev A (p.burnOp n).1) ∧ PurseP b (p.burnOp n).2 w w' := by
 have g2 : w.cell? ⟨0, 0, none⟩ = some (.iface 288 (.pointer (some (A 2)))) := hE.cell 2 h2
 have g6 : w.cell? ⟨4, 0, none⟩ = some (.iface 288 (.pointer (some (A 6)))) := hE.cell 6 h6
 clear hE
 have hs := hp.supply
 have hy := hp.sum
 have f2 := hp.frozen 7
 have b2 := hp.ok.le
 have b3 := hp.ok.most
 have b4 := hp.ok.sum_bd
 by_cases hn : amtB n = true
 · obtain ⟨n0, n1⟩ := amtB_iff.1 hn
   by_cases hm : p.supply - p.sum < n
   · have E1 := Lib.hid (show p.burnOp n = (6, p) by unfold PS.burnOp; rw [if_neg (by rw [hn]; decide), if_pos hm])
     have HP := Lib.hid hp
     clear hp
     generalize p.supply = z at *
     generalize p.sum = y at *
     go_enter Tryz.func204, Tryz.ntmps204
     go_wp2_with (go_at_call 137; refine (part_Amount _ _).mono ?_; rintro e w' ⟨rfl, rfl⟩)
     go_quiet (fail)
     go_wp2
     go_ret
     exact ⟨by rw [E1.out]; rfl, by rw [E1.out]; exact ⟨(Keep.refl _ _).drewN _, HP.out.drewN _⟩⟩
   · have e1 : p.burnOp n = (0, p.grow (-n)) := by unfold PS.burnOp; rw [if_neg (by rw [hn]; decide), if_neg hm]
     have hok : (p.grow (-n)).Ok := by have := PS.burnOp_ok hp.ok n; rw [e1] at this; exact this
     have hset := hp.setSupply (-n) hok
     rw [show p.supply + -n = p.supply - n by omega] at hset
     have HF := Lib.hid hset
     have E1 := Lib.hid e1
     clear e1 hp hset
     generalize p.supply = z at *
     generalize p.sum = y at *
     go_enter Tryz.func204, Tryz.ntmps204
     go_wp2_with (go_at_call 137; refine (part_Amount _ _).mono ?_; rintro e w' ⟨rfl, rfl⟩)
     go_quiet (fail)
     go_wp2
     go_ret
     exact ⟨by rw [E1.out]; rfl, by rw [E1.out]; exact ⟨((Keep.refl _ _).put _).drewN _, HF.out.drewN _⟩⟩
 · have hn' : amtB n = false := by simpa using hn
   have E1 := Lib.hid (show p.burnOp n = (2, p) by unfold PS.burnOp; rw [if_pos hn'])
   have HP := Lib.hid hp
   clear hp hn
   go_enter Tryz.func204, Tryz.ntmps204
   go_wp2_with (go_at_call 137; refine (part_Amount _ _).mono ?_; rintro e w' ⟨rfl, rfl⟩)
   go_ret
   exact ⟨by rw [E1.out]; rfl, by rw [E1.out]; exact PurseP.refl HP.out⟩
theorem lookC_two {o n : Int} (h : lookC o n ≠ 0) : lookC o n = 2 := by unfold lookC at h ⊢; split at h <;> simp_all
theorem purse_Out (A : Nat → Addr) (S : List Nat) (b : Nat) (p : PS) (o n : Int) (w : World) (hE : Errs A S w) (h2 : 2 ∈ S) (h6 : 6 ∈ S) (hp : PurseAt b p w) :
   Calls Tryz.prog 84 #[.pointer (some ⟨b, 0, none⟩), .int .i64 o, .int .i64 n] w fun e w' => e = .returned (ev A (p.outOp o n).1) ∧ PurseP b (p.outOp o n).2 w w' := by
 have g6 : w.cell? ⟨4, 0, none⟩ = some (.iface 288 (.pointer (some (A 6)))) := hE.cell 6 h6
 have HE := Lib.hid hE; clear hE
 by_cases hl : lookC o n = 0
 · obtain ⟨ho, hn0, hn1⟩ := lookC_zero.1 hl
   have el : ev A (lookC o n) = .nilIface := by rw [hl]; rfl
   obtain ⟨h0, h1⟩ := ownB_iff.1 ho
   obtain ⟨k, rfl⟩ := Int.eq_ofNat_of_zero_le h0
   have hk : k < 6 := by omega
   have hc := hp.has hk
   have b1 := hp.ok.at_bd k
   have b2 := hp.ok.le
   have b3 := hp.ok.most
   by_cases hm : p.at k < n
   · have E1 := Lib.hid (show p.outOp k n = (6, p) by unfold PS.outOp; rw [if_neg (by rw [hl]; decide), if_pos hm])
     have HP := Lib.hid hp
     clear hp hl ho
     generalize p.at k = x at *
     go_enter Tryz.func84, Tryz.ntmps84
     go_wp2_with fail
     refine (purse_look A S _ _ _ HE.out h2).mono ?_
     rintro e w' ⟨rfl, rfl⟩
     rw [el]
     go_wp2_with fail
     go_ret
     exact ⟨by rw [E1.out]; rfl, by rw [E1.out]; exact PurseP.refl HP.out⟩
   · have E1 := Lib.hid (show p.outOp k n = (0, p.change k (-n)) by unfold PS.outOp; rw [if_neg (by rw [hl]; decide), if_neg hm])
     have c1 : 0 ≤ p.at k + -n := by omega
     have c2 : p.sum + -n ≤ p.supply := by omega
     have HP := Lib.hid hp
     have HC := Lib.hid (fun w => fun hw => purse_change b p k (-n) w hw ho c1 c2)
     clear hp hl ho c1
     generalize p.at k = x at *
     go_enter Tryz.func84, Tryz.ntmps84
     go_wp2_with fail
     refine (purse_look A S _ _ _ HE.out h2).mono ?_
     rintro e w' ⟨rfl, rfl⟩
     rw [el]
     go_wp2_with fail
     refine (HC.out _ HP.out).mono ?_
     rintro e w2 ⟨rfl, k2⟩
     go_wp2
     go_ret
     exact ⟨by rw [E1.out]; rfl, by rw [E1.out]; exact k2⟩
 · have hl2 := lookC_two hl
   have E1 := Lib.hid (show p.outOp o n = (2, p) by unfold PS.outOp; rw [if_pos hl])
   have el : ev A (lookC o n) = .iface 288 (.pointer (some (A 2))) := by rw [hl2]; rfl
   have HP := Lib.hid hp
   clear hl hl2 hp
   go_enter Tryz.func84, Tryz.ntmps84
   go_wp2_with fail
   refine (purse_look A S _ _ _ HE.out h2).mono ?_
   rintro e w' ⟨rfl, rfl⟩
   rw [el]
   go_wp2
   go_ret
   exact ⟨by rw [E1.out]; rfl, by rw [E1.out]; exact PurseP.refl HP.out⟩
theorem purse_In (A : Nat → Addr) (S : List Nat) (b : Nat) (p : PS) (o n : Int) (w : World) (hE : Errs A S w) (h2 : 2 ∈ S) (h6 : 6 ∈ S) (hp : PurseAt b p w) :
   Calls Tryz.prog 86 #[.pointer (some ⟨b, 0, none⟩), .int .i64 o, .int .i64 n] w fun e w' => e = .returned (ev A (p.inOp o n).1) ∧ PurseP b (p.inOp o n).2 w w' := by
 have g6 : w.cell? ⟨4, 0, none⟩ = some (.iface 288 (.pointer (some (A 6)))) := hE.cell 6 h6
 have HE := Lib.hid hE; clear hE
 by_cases hl : lookC o n = 0
 · obtain ⟨ho, hn0, hn1⟩ := lookC_zero.1 hl
   have el : ev A (lookC o n) = .nilIface := by rw [hl]; rfl
   have hs := hp.supply
   have hy := hp.sum
   have b1 := hp.ok.at_bd o
   have b2 := hp.ok.le
   have b3 := hp.ok.most
   have b4 := hp.ok.sum_bd
   by_cases hm : p.supply - p.sum < n
   · have E1 := Lib.hid (show p.inOp o n = (6, p) by unfold PS.inOp; rw [if_neg (by rw [hl]; decide), if_pos hm])
     have HP := Lib.hid hp
     clear hp hl ho b1
     generalize p.supply = z at *
     generalize p.sum = y at *
     go_enter Tryz.func86, Tryz.ntmps86
     go_wp2_with fail
     refine (purse_look A S _ _ _ HE.out h2).mono ?_
     rintro e w' ⟨rfl, rfl⟩
     rw [el]
     go_wp2_with fail
     go_quiet (fail)
     go_wp2
     go_ret
     exact ⟨by rw [E1.out]; rfl, by rw [E1.out]; exact ⟨(Keep.refl _ _).drewN _, HP.out.drewN _⟩⟩
   · have E1 := Lib.hid (show p.inOp o n = (0, p.change o n) by unfold PS.inOp; rw [if_neg (by rw [hl]; decide), if_neg hm])
     have c1 : 0 ≤ p.at o + n := by omega
     have c2 : p.sum + n ≤ p.supply := by omega
     have HP := Lib.hid hp
     have HC := Lib.hid (fun w => fun hw => purse_change b p o n w hw ho c1 c2)
     clear hp hl ho c1 b1
     generalize p.supply = z at *
     generalize p.sum = y at *
     go_enter Tryz.func86, Tryz.ntmps86
     go_wp2_with fail
     refine (purse_look A S _ _ _ HE.out h2).mono ?_
     rintro e w' ⟨rfl, rfl⟩
     rw [el]
     go_wp2_with fail
     go_quiet (fail)
     go_wp2_with fail
     refine (HC.out _ (HP.out.drewN _)).mono ?_
     rintro e w2 ⟨rfl, k2⟩
     go_wp2
     go_ret
     exact ⟨by rw [E1.out]; rfl, by rw [E1.out]; exact ⟨((Keep.refl _ _).drewN _).trans k2.1, k2.2⟩⟩
 · have hl2 := lookC_two hl
   have E1 := Lib.hid (show p.inOp o n = (2, p) by unfold PS.inOp; rw [if_pos hl])
   have el : ev A (lookC o n) = .iface 288 (.pointer (some (A 2))) := by rw [hl2]; rfl
   have HP := Lib.hid hp
   clear hl hl2 hp
   go_enter Tryz.func86, Tryz.ntmps86
   go_wp2_with fail
   refine (purse_look A S _ _ _ HE.out h2).mono ?_
   rintro e w' ⟨rfl, rfl⟩
   rw [el]
   go_wp2
   go_ret
   exact ⟨by rw [E1.out]; rfl, by rw [E1.out]; exact PurseP.refl HP.out⟩
theorem ev_ne {A : Nat → Addr} {c : Nat} (h : c ≠ 0) : ev A c = .iface 288 (.pointer (some (A c))) := if_neg h
def Far (S : List Nat) (b : Nat) : Prop := ∀ c, c ∈ S → gE c ≠ b
theorem Errs.pp {A : Nat → Addr} {S : List Nat} {b : Nat} {p : PS} {w w' : World} (h : Errs A S w) (hf : Far S b) (k : PurseP b p w w') : Errs A S w' := h.keep k.1 hf
theorem purse_Move (A : Nat → Addr) (S : List Nat) (b : Nat) (p : PS) (x y n : Int) (w : World) (hE : Errs A S w) (h2 : 2 ∈ S) (h6 : 6 ∈ S) (hf : Far S b) (hp : PurseAt b p w) :
   Calls Tryz.prog 145 #[.pointer (some ⟨b, 0, none⟩), .int .i64 x, .int .i64 y, .int .i64 n] w fun e w' => e = .returned (ev A (p.moveOp x y n).1) ∧ PurseP b (p.moveOp x y n).2 w w' := by
 have HE := Lib.hid hE; clear hE
 by_cases hl : lookC y n = 0
 · have el : ev A (lookC y n) = .nilIface := by rw [hl]; rfl
   by_cases ho : (p.outOp x n).1 = 0
   · have E1 := Lib.hid (show p.moveOp x y n = (p.outOp x n).2.inOp y n by unfold PS.moveOp; rw [hl, ho]; rfl)
     have eo : ev A (p.outOp x n).1 = .nilIface := by rw [ho]; rfl
     have HP := Lib.hid hp
     clear hp hl ho
     go_enter Tryz.func145, Tryz.ntmps145
     go_wp2_with fail
     refine (purse_look A S _ _ _ HE.out h2).mono ?_
     rintro e w' ⟨rfl, rfl⟩
     rw [el]
     go_wp2_with fail
     refine (purse_Out A S b p x n _ HE.out h2 h6 HP.out).mono ?_
     rintro e w1 ⟨rfl, k1⟩
     rw [eo]
     have K1 := Lib.hid k1; clear k1
     go_wp2_with fail
     refine (purse_In A S b _ y n _ (HE.out.pp hf K1.out) h2 h6 K1.out.2).mono ?_
     rintro e w2 ⟨rfl, k2⟩
     have K2 := Lib.hid k2; clear k2
     go_wp2
     go_ret
     exact ⟨by rw [E1.out]; rfl, by rw [E1.out]; exact K1.out.trans K2.out⟩
   · have E1 := Lib.hid (show p.moveOp x y n = p.outOp x n by unfold PS.moveOp; rw [if_neg (by rw [hl]; decide), if_pos ho])
     have eo : ev A (p.outOp x n).1 = .iface 288 (.pointer (some (A (p.outOp x n).1))) := ev_ne ho
     have HP := Lib.hid hp
     clear hp hl ho
     go_enter Tryz.func145, Tryz.ntmps145
     go_wp2_with fail
     refine (purse_look A S _ _ _ HE.out h2).mono ?_
     rintro e w' ⟨rfl, rfl⟩
     rw [el]
     go_wp2_with fail
     refine (purse_Out A S b p x n _ HE.out h2 h6 HP.out).mono ?_
     rintro e w1 ⟨rfl, k1⟩
     rw [eo]
     have K1 := Lib.hid k1; have EO := Lib.hid eo; clear k1 eo
     go_wp2
     go_ret
     exact ⟨by rw [E1.out, EO.out]; rfl, by rw [E1.out]; exact K1.out⟩
 · have hl2 := lookC_two hl
   have E1 := Lib.hid (show p.moveOp x y n = (2, p) by unfold PS.moveOp; rw [if_pos hl])
   have el : ev A (lookC y n) = .iface 288 (.pointer (some (A 2))) := by rw [hl2]; rfl
   have HP := Lib.hid hp
   clear hl hl2 hp
   go_enter Tryz.func145, Tryz.ntmps145
   go_wp2_with fail
   refine (purse_look A S _ _ _ HE.out h2).mono ?_
   rintro e w' ⟨rfl, rfl⟩
   rw [el]
   go_wp2
   go_ret
   exact ⟨by rw [E1.out]; rfl, by rw [E1.out]; exact PurseP.refl HP.out⟩
end Go.Proofs.YtajnfkmkombajaaGreatDoor
namespace Go.Proofs.YtajnfkmkombajaaGreatDoor
open Go.RowKit
def PS.first (k : Nat) : PS := ⟨List.replicate k 10000 ++ List.replicate (6 - k) 0, 10000 * k, 10000 * k⟩
theorem PS.first_step {k : Nat} (h : k < 6) : (PS.first k).mintOp k 10000 = (0, PS.first (k + 1)) := by
 match k, h with
 | 0, _ => rfl
 | 1, _ => rfl
 | 2, _ => rfl
 | 3, _ => rfl
 | 4, _ => rfl
 | 5, _ => rfl
def QS.first (k : Nat) : QS := ⟨1000, 1000, [0, 0, 0, 0, 0, 0].set k 1000⟩
def firstP (k : Nat) : PS := ⟨List.replicate k 9000 ++ List.replicate (6 - k) 10000, 60000 - 1000 * k, 60000⟩
def firstS (k : Nat) : SS := ⟨(List.range k).map (fun i => some (QS.first i)) ++ List.replicate (3 - k) none, []⟩
def firstC (k : Nat) (pics : List (List Int)) : CS := ⟨firstP k, firstS k, KS.new, 0, 0, 0, pics⟩
theorem first_reg {k : Nat} (h : k < 3) : ∃ s, (firstS k).regOp k = (0, s) ∧ ∀ pics, CS.stakeOp ⟨firstP k, s, KS.new, 0, 0, 0, pics⟩ k k 1000 = (0, firstC (k + 1) pics) := by
 match k, h with
 | 0, _ => exact ⟨_, rfl, fun _ => rfl⟩
 | 1, _ => exact ⟨_, rfl, fun _ => rfl⟩
 | 2, _ => exact ⟨_, rfl, fun _ => rfl⟩
def pic0 : List Int := [1000, 1000, 1000]
def CS.new : CS := firstC 3 [pic0, pic0, pic0]
theorem first_picture (pics : List (List Int)) : (firstC 3 pics).s.picture = pic0 := show (firstS 3).picture = pic0 by decide
theorem firstP_ok : (firstP 3).Ok := by
 refine ⟨by decide, ?_, by decide, by decide, by decide⟩
 decide
theorem firstS_ok : (firstS 3).Ok := by
 have h0 : (firstS 3).Ok := by
   have a0 := SS.new_ok
   have a1 := SS.joinOp_ok (SS.regOp_ok a0 0) 0 0 1000
   have a2 := SS.joinOp_ok (SS.regOp_ok a1 1) 1 1 1000
   have a3 := SS.joinOp_ok (SS.regOp_ok a2 2) 2 2 1000
   exact a3
 exact h0
theorem CS.new_inv : CS.new.Inv := by
 refine ⟨firstP_ok, firstS_ok, fun k h0 h3 => ?_, by decide, (fun x hx => by cases hx), Nat.le_refl _, by decide, by decide, rfl, fun l hl => ?_, by decide, by decide⟩
 · obtain ⟨j, rfl⟩ := Int.eq_ofNat_of_zero_le h0
   match j, (by omega : j < 3) with
   | 0, _ => rfl
   | 1, _ => rfl
   | 2, _ => rfl
 · have : l = pic0 := by
     have hl' : l ∈ [pic0, pic0, pic0] := hl
     simpa using hl'
   subst this
   refine ⟨rfl, ?_, by decide⟩
   decide
/-! ### till the cycles are over -/
structure Early (i : Nat) (c : CS) : Prop where
 inv : c.Inv
 level : c.level = i
 cycle : c.cycle = ((i / 4 : Nat) : Int)
 pics : ∀ j, j + i / 4 < 3 → c.pics[j]? = some pic0
theorem Early.new : Early 0 CS.new := ⟨CS.new_inv, rfl, rfl, fun j hj => by
 match j, (by omega : j < 3) with
 | 0, _ => rfl
 | 1, _ => rfl
 | 2, _ => rfl⟩
theorem Early.stake {i : Nat} {c : CS} (h : Early i c) (o b n : Int) : Early i (c.stakeOp o b n).2 := by
 have e : (c.stakeOp o b n).2.level = c.level ∧ (c.stakeOp o b n).2.cycle = c.cycle ∧ (c.stakeOp o b n).2.pics = c.pics := by
   unfold CS.stakeOp; split
   · exact ⟨rfl, rfl, rfl⟩
   · split <;> exact ⟨rfl, rfl, rfl⟩
 exact ⟨(CS.stake_inv h.inv o b n).1, e.1.trans h.level, e.2.1.trans h.cycle, fun j hj => by rw [e.2.2]; exact h.pics j hj⟩
theorem CS.reward_keeps (c : CS) (b : Int) : (c.reward b).2.pics = c.pics ∧ (c.reward b).2.k = c.k ∧ (c.reward b).2.bonus = c.bonus := by
 unfold CS.reward; split
 · exact ⟨rfl, rfl, rfl⟩
 · split
   · exact ⟨rfl, rfl, rfl⟩
   · split <;> exact ⟨rfl, rfl, rfl⟩
theorem CS.judges_pics : ∀ (l : List (Int × EV)) (c : CS), (l.foldl CS.judge c).pics = c.pics ∧ (l.foldl CS.judge c).cycle = c.cycle ∧ (l.foldl CS.judge c).level = c.level
 | [], _ => ⟨rfl, rfl, rfl⟩
 | x :: l, c => CS.judges_pics l (c.judge x)
end Go.Proofs.YtajnfkmkombajaaGreatDoor
namespace Go.Proofs.YtajnfkmkombajaaGreatDoor
open Go.RowKit Go.Maps
structure PicsAt (F : Nat → Prop) (pv : Value) (pics : List (List Int)) (w : World) : Prop where
 own : ∃ vs, OwnSl 0 28 pv vs w ∧ vs.length = pics.length ∧ ∀ (i : Nat) v z, vs[i]? = some v → pics[i]? = some z → ∃ ao cap, v = .slice ao z.length cap ∧ RdI .i64 w ao z.length cap z ∧ ∀ a, ao = some a → F a.block ∧ pv.ownBlock ≠ some a.block
 blk : ∀ g, pv.ownBlock = some g → F g
theorem PicsAt.keep {F G : Nat → Prop} {pv : Value} {pics : List (List Int)} {w w' : World} (h : PicsAt F pv pics w) (K : Keep G w w') (hG : ∀ b, F b → ¬ G b) : PicsAt F pv pics w' := by
 obtain ⟨vs, h1, h2, h3⟩ := h.own
 refine ⟨⟨vs, h1.keep K (fun g hg => hG g (h.blk g hg)), h2, fun i v z hv hz => ?_⟩, h.blk⟩
 obtain ⟨ao, cap, e, R, hb⟩ := h3 i v z hv hz
 exact ⟨ao, cap, e, R.keep K (fun a ha => hG _ (hb a ha).1), hb⟩
theorem PicsAt.mono {F G : Nat → Prop} {pv : Value} {pics : List (List Int)} {w : World} (h : PicsAt F pv pics w) (hG : ∀ b, F b → G b) : PicsAt G pv pics w := by
 obtain ⟨vs, h1, h2, h3⟩ := h.own
 refine ⟨⟨vs, h1, h2, fun i v z hv hz => ?_⟩, fun g hg => hG g (h.blk g hg)⟩
 obtain ⟨ao, cap, e, R, hb⟩ := h3 i v z hv hz
 exact ⟨ao, cap, e, R, fun a ha => ⟨hG _ (hb a ha).1, (hb a ha).2⟩⟩
structure ChL where
 pb : Nat
 sb : Nat
 kb : Nat
 Fs : Nat → Prop
 Fk : Nat → Prop
 Fp : Nat → Prop
 pv : Value
def ChL.foot (K : ChL) (cb : Nat) (b : Nat) : Prop := b = cb ∨ b = K.pb ∨ K.Fs b ∨ K.Fk b ∨ K.Fp b
def chainVs (K : ChL) (sd : Nat) (x : CS) : List Value :=
 [.pointer (some ⟨K.pb, 0, none⟩), .pointer (some ⟨K.sb, 0, none⟩), .pointer (some ⟨K.kb, 0, none⟩), .int .u64 sd, .int .i64 x.cycle, .int .i64 x.level, .int .i64 x.bonus, K.pv]
structure ChainL (cb : Nat) (K : ChL) (n : Nat) (sd : Nat) (x : CS) (w : World) : Prop where
 row : RowAt cb 105 (chainVs K sd x) w
 purse : PurseAt K.pb x.p w
 st : StakesAt K.sb K.Fs n x.s w
 ct : CourtAt K.kb K.Fk n x.k w
 pics : PicsAt K.Fp K.pv x.pics w
 pl : ∀ b, K.Fp b → b < w.heap.size
 d0 : cb ≠ K.pb ∧ ¬ K.Fs cb ∧ ¬ K.Fk cb ∧ ¬ K.Fp cb
 d1 : ¬ K.Fs K.pb ∧ ¬ K.Fk K.pb ∧ ¬ K.Fp K.pb
 d2 : ∀ b, K.Fs b → ¬ K.Fk b ∧ ¬ K.Fp b
 d3 : ∀ b, K.Fk b → ¬ K.Fp b
section
variable {cb n m sd : Nat} {K : ChL} {x : CS} {w w' : World}
theorem ChainL.cell (h : ChainL cb K n sd x w) (i : Nat) : w.cell? ⟨cb, i, none⟩ = (chainVs K sd x)[i]? := h.row.cell i
theorem ChainL.keep {G : Nat → Prop} (h : ChainL cb K n sd x w) (k : Keep G w w') (hG : ∀ b, K.foot cb b → ¬ G b) : ChainL cb K n sd x w' :=
 ⟨h.row.keep k (hG _ (.inl rfl)), h.purse.keep k (hG _ (.inr (.inl rfl))), h.st.keep k (fun b hb => hG b (.inr (.inr (.inl hb)))), h.ct.keep k (fun b hb => hG b (.inr (.inr (.inr (.inl hb))))),
   h.pics.keep k (fun b hb => hG b (.inr (.inr (.inr (.inr hb))))), fun b hb => Nat.lt_of_lt_of_le (h.pl b hb) k.size, h.d0, h.d1, h.d2, h.d3⟩
theorem ChainL.below (h : ChainL cb K n sd x w) (k : Below w.heap.size w w') : ChainL cb K n sd x w' := h.keep (G := fun _ => False) (Keep.of_below k) (fun _ _ => id)
theorem ChainL.drewN (h : ChainL cb K n sd x w) (j : Nat) : ChainL cb K n sd x (w.drewN j) := h.keep (G := fun _ => False) ((Keep.refl _ _).drewN j) (fun _ _ => id)
theorem ChainL.mono (h : ChainL cb K n sd x w) (hm : n ≤ m) : ChainL cb K m sd x w := ⟨h.row, h.purse, h.st.mono hm, h.ct.mono hm, h.pics, h.pl, h.d0, h.d1, h.d2, h.d3⟩
theorem ChainL.footlt (h : ChainL cb K n sd x w) : ∀ b, K.foot cb b → b < w.heap.size := fun b hb => by
 rcases hb with rfl | rfl | hb | hb | hb
 · exact h.row.lt
 · exact h.purse.lt
 · exact h.st.lt hb
 · exact h.ct.lt b hb
 · exact h.pl b hb
theorem ChainL.purse' (h : ChainL cb K n sd x w) {p : PS} (k : PurseP K.pb p w w') : ChainL cb K n sd { x with p := p } w' :=
 ⟨h.row.keep k.1 h.d0.1, k.2, h.st.keep k.1 (fun b hb e => by subst e; exact h.d1.1 hb), h.ct.keep k.1 (fun b hb e => by subst e; exact h.d1.2.1 hb), h.pics.keep k.1 (fun b hb e => by subst e; exact h.d1.2.2 hb),
   fun b hb => Nat.lt_of_lt_of_le (h.pl b hb) k.1.size, h.d0, h.d1, h.d2, h.d3⟩
def ChL.withS (K : ChL) (w w' : World) : ChL := { K with Fs := grownF K.Fs w w' }
def ChL.withK (K : ChL) (w w' : World) : ChL := { K with Fk := grownF K.Fk w w' }
theorem ChainL.stakes' (h : ChainL cb K n sd x w) {s : SS} (hm : n ≤ m) (k : StakesP K.sb K.Fs m s w w') : ChainL cb (K.withS w w') m sd { x with s := s } w' := by
 have hc := h.row.lt; have hp := h.purse.lt
 refine ⟨h.row.keep k.1 h.d0.2.1, h.purse.keep k.1 h.d1.1, k.2, (h.ct.mono hm).keep k.1 (fun b hb hf => (h.d2 b hf).1 hb), h.pics.keep k.1 (fun b hb hf => (h.d2 b hf).2 hb), fun b hb => Nat.lt_of_lt_of_le (h.pl b hb) k.1.size,
   ⟨h.d0.1, fun hf => ?_, h.d0.2.2⟩, ⟨fun hf => ?_, h.d1.2⟩, fun b hf => ?_, h.d3⟩
 · rcases hf with hf | hf
   · exact h.d0.2.1 hf
   · omega
 · rcases hf with hf | hf
   · exact h.d1.1 hf
   · have : K.pb < w.heap.size := hp
     have : w.heap.size ≤ K.pb := hf.1
     omega
 · rcases hf with hf | hf
   · exact h.d2 b hf
   · exact ⟨fun hb => by have := h.ct.lt b hb; omega, fun hb => by have := h.pl b hb; omega⟩
theorem ChainL.court' (h : ChainL cb K n sd x w) {c : KS} (hm : n ≤ m) (k : CourtP K.kb K.Fk m c w w') : ChainL cb (K.withK w w') m sd { x with k := c } w' := by
 have hc := h.row.lt; have hp := h.purse.lt
 refine ⟨h.row.keep k.1 h.d0.2.2.1, h.purse.keep k.1 h.d1.2.1, (h.st.mono hm).keep k.1 (fun b hb hf => (h.d2 b hb).1 hf), k.2, h.pics.keep k.1 (fun b hb hf => h.d3 b hf hb), fun b hb => Nat.lt_of_lt_of_le (h.pl b hb) k.1.size,
   ⟨h.d0.1, h.d0.2.1, fun hf => ?_, h.d0.2.2.2⟩, ⟨h.d1.1, fun hf => ?_, h.d1.2.2⟩, fun b hb => ⟨fun hf => ?_, (h.d2 b hb).2⟩, fun b hf => ?_⟩
 · rcases hf with hf | hf
   · exact h.d0.2.2.1 hf
   · omega
 · rcases hf with hf | hf
   · exact h.d1.2.1 hf
   · have : K.pb < w.heap.size := hp
     have : w.heap.size ≤ K.pb := hf.1
     omega
 · rcases hf with hf | hf
   · exact (h.d2 b hb).1 hf
   · have := h.st.lt hb; omega
 · rcases hf with hf | hf
   · exact h.d3 b hf
   · exact fun hb => by have := h.pl b hb; omega
end
def ChainAt (cb : Nat) (F : Nat → Prop) (n sd : Nat) (x : CS) (w : World) : Prop := ∃ K, ChainL cb K n sd x w ∧ (∀ b, K.foot cb b → F b) ∧ ∀ b, F b → b < w.heap.size
def ChainP (cb : Nat) (F : Nat → Prop) (n sd : Nat) (x : CS) (w w' : World) : Prop := Keep F w w' ∧ ChainAt cb (grownF F w w') n sd x w'
section
variable {cb n m sd : Nat} {F G : Nat → Prop} {x : CS} {w w' : World}
theorem ChainAt.keep (h : ChainAt cb F n sd x w) (k : Keep G w w') (hG : ∀ b, F b → ¬ G b) : ChainAt cb F n sd x w' := by
 obtain ⟨K, h1, h2, h3⟩ := h
 exact ⟨K, h1.keep k (fun b hb => hG b (h2 b hb)), h2, fun b hb => Nat.lt_of_lt_of_le (h3 b hb) k.size⟩
theorem ChainAt.below (h : ChainAt cb F n sd x w) (k : Below w.heap.size w w') : ChainAt cb F n sd x w' := h.keep (G := fun _ => False) (Keep.of_below k) (fun _ _ => id)
theorem ChainAt.mono (h : ChainAt cb F n sd x w) (hm : n ≤ m) : ChainAt cb F m sd x w := by
 obtain ⟨K, h1, h2, h3⟩ := h
 exact ⟨K, h1.mono hm, h2, h3⟩
theorem ChainAt.lt (h : ChainAt cb F n sd x w) : ∀ b, F b → b < w.heap.size := by obtain ⟨K, h1, h2, h3⟩ := h; exact h3
theorem ChainP.of_below (h : ChainAt cb F n sd x w) (hb : Below w.heap.size w w') : ChainP cb F n sd x w w' := by
 obtain ⟨K, h1, h2, h3⟩ := h
 exact ⟨Keep.of_below hb, K, h1.below hb, fun b hk => .inl (h2 b hk), grownF_lt h3 hb.size⟩
theorem ChainP.mono (h : ChainP cb F n sd x w w') (hm : n ≤ m) : ChainP cb F m sd x w w' := ⟨h.1, h.2.mono hm⟩
end
structure ChGo (W : World) (F : Nat → Prop) (cb : Nat) (K : ChL) (n sd : Nat) (x : CS) (w : World) : Prop where
 keep : Keep F W w
 ch : ChainL cb K n sd x w
 foot : ∀ b, K.foot cb b → F b ∨ (W.heap.size ≤ b ∧ b < w.heap.size)
 Flt : ∀ b, F b → b < W.heap.size
section
variable {cb n m sd : Nat} {F : Nat → Prop} {K : ChL} {x : CS} {W w w' : World}
theorem ChGo.start (h : ChainL cb K n sd x w) (hF : ∀ b, K.foot cb b → F b) (hl : ∀ b, F b → b < w.heap.size) : ChGo w F cb K n sd x w := ⟨Keep.refl _ _, h, fun b hb => .inl (hF b hb), hl⟩
theorem ChGo.below (h : ChGo W F cb K n sd x w) (k : Below w.heap.size w w') : ChGo W F cb K n sd x w' :=
 ⟨h.keep.trans (Keep.of_below k), h.ch.below k, fun b hb => (h.foot b hb).imp id (fun ⟨a, c⟩ => ⟨a, Nat.lt_of_lt_of_le c k.size⟩), h.Flt⟩
theorem ChGo.drewN (h : ChGo W F cb K n sd x w) (j : Nat) : ChGo W F cb K n sd x (w.drewN j) := h.below ((Below.refl _ _).drewN j)
theorem ChGo.dr (h : ChGo W F cb K n sd x w) (k : Dr w w') : ChGo W F cb K n sd x w' := by obtain ⟨j, rfl⟩ := k; exact h.drewN j
theorem ChGo.mono (h : ChGo W F cb K n sd x w) (hm : n ≤ m) : ChGo W F cb K m sd x w := ⟨h.keep, h.ch.mono hm, h.foot, h.Flt⟩
theorem ChGo.step (h : ChGo W F cb K n sd x w) {G : Nat → Prop} (k : Keep G w w') (hG : ∀ b, G b → K.foot cb b) {K' : ChL} {y : CS} (hc : ChainL cb K' m sd y w') (hf : ∀ b, K'.foot cb b → K.foot cb b ∨ (w.heap.size ≤ b ∧ b < w'.heap.size)) : ChGo W F cb K' m sd y w' := by
 refine ⟨h.keep.andThen k (fun b hb => (h.foot b (hG b hb)).imp id (·.1)), hc, fun b hb => ?_, h.Flt⟩
 have hs := k.size; have hs0 := h.keep.size
 rcases hf b hb with hb | hb
 · rcases h.foot b hb with hb | hb
   · exact .inl hb
   · exact .inr ⟨hb.1, by omega⟩
 · exact .inr ⟨by omega, hb.2⟩
theorem ChGo.purse (h : ChGo W F cb K n sd x w) {p : PS} (k : PurseP K.pb p w w') : ChGo W F cb K n sd { x with p := p } w' :=
 h.step k.1 (fun b hb => .inr (.inl hb)) (h.ch.purse' k) (fun b hb => .inl hb)
theorem ChGo.stakes (h : ChGo W F cb K n sd x w) {s : SS} (hm : n ≤ m) (k : StakesP K.sb K.Fs m s w w') : ChGo W F cb (K.withS w w') m sd { x with s := s } w' :=
 h.step k.1 (fun b hb => .inr (.inr (.inl hb))) (h.ch.stakes' hm k) (fun b hb => by
   rcases hb with hb | hb | hb | hb
   · exact .inl (.inl hb)
   · exact .inl (.inr (.inl hb))
   · rcases hb with hb | hb
     · exact .inl (.inr (.inr (.inl hb)))
     · exact .inr hb
   · exact .inl (.inr (.inr (.inr hb))))
theorem ChGo.court (h : ChGo W F cb K n sd x w) {c : KS} (hm : n ≤ m) (k : CourtP K.kb K.Fk m c w w') : ChGo W F cb (K.withK w w') m sd { x with k := c } w' :=
 h.step k.1 (fun b hb => .inr (.inr (.inr (.inl hb)))) (h.ch.court' hm k) (fun b hb => by
   rcases hb with hb | hb | hb | hb | hb
   · exact .inl (.inl hb)
   · exact .inl (.inr (.inl hb))
   · exact .inl (.inr (.inr (.inl hb)))
   · rcases hb with hb | hb
     · exact .inl (.inr (.inr (.inr (.inl hb))))
     · exact .inr hb
   · exact .inl (.inr (.inr (.inr (.inr hb)))))
theorem ChGo.put (h : ChGo W F cb K n sd x w) {i : Nat} {v : Value} {y : CS} (hv : (chainVs K sd x).set i v = chainVs K sd y) (hp : y.p = x.p) (hs : y.s = x.s) (hk : y.k = x.k) (hc : y.pics = x.pics) : ChGo W F cb K n sd y (w.setCell ⟨cb, i, none⟩ v) := by
 have k : Keep (· = cb) w (w.setCell ⟨cb, i, none⟩ v) := (Keep.refl _ _).put v
 have c := h.ch
 refine h.step k (fun b hb => .inl hb) ⟨?_, ?_, ?_, ?_, ?_, fun b hb => by have := c.pl b hb; simpa [World.setCell] using this, c.d0, c.d1, c.d2, c.d3⟩ (fun b hb => .inl hb)
 · rw [← hv]; exact c.row.set i v
 · rw [hp]; exact c.purse.keep k (fun e => c.d0.1 e.symm)
 · rw [hs]; exact c.st.keep k (fun b hb e => by subst e; exact c.d0.2.1 hb)
 · rw [hk]; exact c.ct.keep k (fun b hb e => by subst e; exact c.d0.2.2.1 hb)
 · rw [hc]; exact c.pics.keep k (fun b hb e => by subst e; exact c.d0.2.2.2 hb)
theorem ChGo.errs {A : Nat → Addr} {S : List Nat} (h : ChGo W F cb K n sd x w) (hE : Errs A S W) (hFE : ∀ c ∈ S, ¬ F (gE c)) : Errs A S w := hE.keep h.keep hFE
theorem ChGo.fs (h : ChGo W F cb K n sd x w) {A : Nat → Addr} {S : List Nat} (hE : Errs A S W) (hFE : ∀ c ∈ S, ¬ F (gE c)) : ∀ c ∈ S, ¬ K.foot cb (gE c) := fun c hc hf => by
 rcases h.foot _ hf with hf | hf
 · exact hFE c hc hf
 · have := World.block_lt_of_cell? W _ (hE.cell c hc)
   simp only at this
   omega
end
end Go.Proofs.YtajnfkmkombajaaGreatDoor
