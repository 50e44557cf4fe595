/- Contracts of package purse. -/
import Derived.Test.YtajnfkmkombajabDoorAmt
import Derived.Deep.QuietTactic
import Derived.BigQuiet
import Derived.Test.YtajnfkmkombajabDoorPlPurse
import Derived.Test.YtajnfkmkombajabDoorKeep
import Derived.Outline
set_option linter.unusedVariables false
set_option linter.unusedSimpArgs false
namespace Go.Proofs.YtajnfkmkombajabDoor
open Go.RowKit

/-- block b is a purse that holds p -/
structure PurseAt (b : Nat) (p : PS) (w : World) : Prop where
  ok : p.Ok
  row : RowAt b 131 (p.cells.map (Value.int .i64)) w
theorem PurseAt.lt {b : Nat} {p : PS} {w : World} (h : PurseAt b p w) : b < w.heap.size := h.row.lt
theorem PurseAt.keep {F : Nat → Prop} {b : Nat} {p : PS} {w w' : World} (h : PurseAt b p w) (k : Keep F w w') (hF : ¬ F b) : PurseAt b p w' := ⟨h.ok, h.row.keep k hF⟩
theorem PurseAt.drewN {b : Nat} {p : PS} {w : World} (h : PurseAt b p w) (n : Nat) : PurseAt b p (w.drewN n) := ⟨h.ok, h.row⟩
theorem PurseAt.frozen {b : Nat} {p : PS} {w : World} (h : PurseAt b p w) (i : Nat) : w.frozen? ⟨b, i, none⟩ = false := h.row.frozen i
theorem PurseAt.has {b : Nat} {p : PS} {w : World} (h : PurseAt b p w) {k : Nat} (hk : k < 6) : w.cell? ⟨b, k, none⟩ = some (.int .i64 (p.at k)) := by
  rw [h.row.cell, List.getElem?_map, PS.cells, List.getElem?_append_left (by rw [h.ok.six]; exact hk), List.getElem?_eq_getElem (by rw [h.ok.six]; exact hk)]
  simp [PS.at, h.ok.six, hk]
theorem PurseAt.sum {b : Nat} {p : PS} {w : World} (h : PurseAt b p w) : w.cell? ⟨b, 6, none⟩ = some (.int .i64 p.sum) := by
  rw [h.row.cell, List.getElem?_map, PS.cells, List.getElem?_append_right (by rw [h.ok.six]; decide)]; simp [h.ok.six]
theorem PurseAt.supply {b : Nat} {p : PS} {w : World} (h : PurseAt b p w) : w.cell? ⟨b, 7, none⟩ = some (.int .i64 p.supply) := by
  rw [h.row.cell, List.getElem?_map, PS.cells, List.getElem?_append_right (by rw [h.ok.six]; decide)]; simp [h.ok.six]
theorem PurseAt.setSupply {b : Nat} {p : PS} {w : World} (h : PurseAt b p w) (n : Int) (hok : (p.grow n).Ok) : PurseAt b (p.grow n) (w.setCell ⟨b, 7, none⟩ (.int .i64 (p.supply + n))) := by
  refine ⟨hok, ?_⟩
  have := h.row.set 7 (.int .i64 (p.supply + n))
  have e : (p.cells.map (Value.int .i64)).set 7 (.int .i64 (p.supply + n)) = ((p.grow n).cells.map (Value.int .i64)) := by
    have h6 := h.ok.six
    obtain ⟨l, s, u⟩ := p
    match l, h6 with
    | [x0, x1, x2, x3, x4, x5], _ => rfl
  rw [← e]; exact this
theorem PurseAt.setHas {b : Nat} {p : PS} {w : World} (h : PurseAt b p w) {k : Nat} (hk : k < 6) (n : Int) (hok : (p.change k n).Ok) :
    PurseAt b (p.change k n) ((w.setCell ⟨b, k, none⟩ (.int .i64 (p.at k + n))).setCell ⟨b, 6, none⟩ (.int .i64 (p.sum + n))) := by
  refine ⟨hok, ?_⟩
  have := (h.row.set k (.int .i64 (p.at k + n))).set 6 (.int .i64 (p.sum + n))
  have e : ((p.cells.map (Value.int .i64)).set k (.int .i64 (p.at k + n))).set 6 (.int .i64 (p.sum + n)) = ((p.change k n).cells.map (Value.int .i64)) := by
    have h6 := h.ok.six
    obtain ⟨l, s, u⟩ := p
    simp only [PS.at, PS.change, PS.cells, Int.toNat_natCast]
    match l, h6 with
    | [x0, x1, x2, x3, x4, x5], _ =>
      match k, hk with
      | 0, _ => rfl
      | 1, _ => rfl
      | 2, _ => rfl
      | 3, _ => rfl
      | 4, _ => rfl
      | 5, _ => rfl
  rw [← e]; exact this

/-- the one block b may have turned; it is a purse that holds p -/
def PurseP (b : Nat) (p : PS) (w w' : World) : Prop := Keep (· = b) w w' ∧ PurseAt b p w'

theorem purse_New (w : World) :
    Calls Tryd.prog 24 #[] w fun e w' => e = .returned (.pointer (some ⟨w.heap.size, 0, none⟩)) ∧ Below w.heap.size w w' ∧ PurseAt w.heap.size PS.new w' := by
  go_enter Tryd.func24, Tryd.ntmps24
  go_wp2
  go_ret
  exact ⟨rfl, (Below.refl _ _).alloc (Nat.le_refl _) _, PS.new_ok, RowAt.new _ _ _⟩

theorem look_two {o n : Int} (h : ¬ (0 ≤ o ∧ o < 6 ∧ amtB n = true)) : lookC o n = 2 := by
  unfold lookC; rw [if_neg]; simp only [ownB, Bool.and_eq_true, decide_eq_true_eq]; exact fun hh => h ⟨hh.1.1, hh.1.2, hh.2⟩

theorem purse_look (A : Nat → Addr) (S : List Nat) (o n : Int) (w : World) (hE : Errs A S w) (h2 : 2 ∈ S) :
    Calls Tryd.prog 114 #[.int .i64 o, .int .i64 n] w fun e w' => e = .returned (ev A (lookC o n)) ∧ w = w' := by
  have g2 : w.cell? ⟨0, 0, none⟩ = some (.iface 273 (.pointer (some (A 2)))) := hE.cell 2 h2
  by_cases hc : 0 ≤ o ∧ o < 6 ∧ amtB n = true
  · have H := Lib.hid (show ev A (lookC o n) = .nilIface by rw [lookC_zero.2 ⟨ownB_iff.2 ⟨hc.1, hc.2.1⟩, amtB_iff.1 hc.2.2⟩]; rfl)
    obtain ⟨h1, h2', h3⟩ := hc
    go_enter Tryd.func114, Tryd.ntmps114
    go_wp2_with (go_at_call 117; refine (part_Amount _ _).mono ?_; rintro e w' ⟨rfl, rfl⟩)
    go_ret
    exact ⟨by rw [H.out]; rfl, rfl⟩
  · have H := Lib.hid (show ev A (lookC o n) = .iface 273 (.pointer (some (A 2))) by rw [look_two hc]; rfl)
    have hcases : o < 0 ∨ (0 ≤ o ∧ 6 ≤ o) ∨ (0 ≤ o ∧ o < 6 ∧ amtB n = false) := by
      cases h : amtB n
      · simp; omega
      · simp [h] at hc ⊢; omega
    clear hc
    rcases hcases with h1 | ⟨h1, h2'⟩ | ⟨h1, h2', h3⟩
    all_goals
      go_enter Tryd.func114, Tryd.ntmps114
      go_wp2_with (go_at_call 117; refine (part_Amount _ _).mono ?_; rintro e w' ⟨rfl, rfl⟩)
      go_ret
      exact ⟨by rw [H.out]; rfl, rfl⟩

theorem purse_Has (b : Nat) (p : PS) (o : Int) (w : World) (hp : PurseAt b p w) :
    Calls Tryd.prog 41 #[.pointer (some ⟨b, 0, none⟩), .int .i64 o] w fun e w' => e = .returned (.int .i64 (if ownB o then p.at o else 0)) ∧ w = w' := by
  by_cases ho : ownB o = true
  · rw [if_pos ho]
    obtain ⟨h0, h1⟩ := ownB_iff.1 ho
    obtain ⟨k, rfl⟩ := Int.eq_ofNat_of_zero_le h0
    have hk : k < 6 := by omega
    have hc := hp.has hk
    clear ho hp
    generalize p.at (k : Int) = x at *
    go_enter Tryd.func41, Tryd.ntmps41
    go_wp2
    go_ret
    exact ⟨rfl, rfl⟩
  · rw [if_neg ho]
    have hc : o < 0 ∨ (0 ≤ o ∧ 6 ≤ o) := by rw [ownB_iff] at ho; omega
    clear ho hp
    rcases hc with h | ⟨h, h'⟩
    all_goals
      go_enter Tryd.func41, Tryd.ntmps41
      go_wp2
      go_ret
      exact ⟨rfl, rfl⟩

theorem purse_Supply (b : Nat) (p : PS) (w : World) (hp : PurseAt b p w) :
    Calls Tryd.prog 39 #[.pointer (some ⟨b, 0, none⟩)] w fun e w' => e = .returned (.int .i64 p.supply) ∧ w = w' := by
  have hc := hp.supply
  clear hp
  generalize p.supply = x at *
  go_enter Tryd.func39, Tryd.ntmps39
  go_wp2
  go_ret
  exact ⟨rfl, rfl⟩

theorem purse_change (b : Nat) (p : PS) (o n : Int) (w : World) (hp : PurseAt b p w) (ho : ownB o = true) (h1 : 0 ≤ p.at o + n) (h2 : p.sum + n ≤ p.supply) :
    Calls Tryd.prog 115 #[.pointer (some ⟨b, 0, none⟩), .int .i64 o, .int .i64 n] w fun e w' => e = .returned (.tuple #[]) ∧ PurseP b (p.change o n) w w' := by
  obtain ⟨h0, h6⟩ := ownB_iff.1 ho
  obtain ⟨k, rfl⟩ := Int.eq_ofNat_of_zero_le h0
  have hk : k < 6 := by omega
  have hfin := hp.setHas hk n (hp.ok.change ho h1 h2)
  have hc := hp.has hk
  have hs := hp.sum
  have f1 := hp.frozen k
  have f2 := hp.frozen 6
  have b1 := hp.ok.at_bd k
  have b2 := hp.ok.le
  have b3 := hp.ok.most
  have b4 := hp.ok.sum_bd
  have HF := Lib.hid hfin; clear hfin ho hp h0 h6
  generalize hx : p.at (k : Int) = x at *
  generalize hy : p.sum = y at *
  generalize hz : p.supply = z at *
  clear hx hy hz
  go_enter Tryd.func115, Tryd.ntmps115
  go_wp2
  go_region
  go_wp2
  go_end0
  exact ⟨rfl, (((Keep.refl _ _).put _).put _).drew, HF.out.drewN 1⟩

theorem PurseP.refl {b : Nat} {p : PS} {w : World} (h : PurseAt b p w) : PurseP b p w w := ⟨Keep.refl _ _, h⟩
theorem PurseP.trans {b : Nat} {p q : PS} {w w1 w2 : World} (h : PurseP b p w w1) (k : PurseP b q w1 w2) : PurseP b q w w2 := ⟨h.1.trans k.1, k.2⟩
theorem Errs.keep {A : Nat → Addr} {S : List Nat} {F : Nat → Prop} {w w' : World} (h : Errs A S w) (k : Keep F w w') (hF : ∀ c, c ∈ S → ¬ F (gE c)) : Errs A S w' :=
  ⟨fun c hc => by rw [k.cell (p := ⟨gE c, 0, none⟩) (World.block_lt_of_cell? w _ (h.cell c hc)) (hF c hc)]; exact h.cell c hc⟩

theorem purse_Grow (A : Nat → Addr) (S : List Nat) (b : Nat) (p : PS) (n : Int) (w : World) (hE : Errs A S w) (h2 : 2 ∈ S) (hp : PurseAt b p w) :
    Calls Tryd.prog 35 #[.pointer (some ⟨b, 0, none⟩), .int .i64 n] w fun e w' => e = .returned (ev A (p.growOp n).1) ∧ PurseP b (p.growOp n).2 w w' := by
  have g2 : w.cell? ⟨0, 0, none⟩ = some (.iface 273 (.pointer (some (A 2)))) := hE.cell 2 h2
  clear hE
  have hs := hp.supply
  have f2 := hp.frozen 7
  have b2 := hp.ok.le
  have b3 := hp.ok.most
  have b4 := hp.ok.sum_bd
  by_cases hn : amtB n = true
  · obtain ⟨n0, n1⟩ := amtB_iff.1 hn
    by_cases hm : amtB (p.supply + n) = true
    · have e1 : p.growOp n = (0, p.grow n) := by unfold PS.growOp; rw [hn, hm]; rfl
      have hok : (p.grow n).Ok := by have := PS.growOp_ok hp.ok n; rw [e1] at this; exact this
      have HF := Lib.hid (hp.setSupply n hok)
      have E1 := Lib.hid e1
      clear e1 hp
      generalize p.supply = z at *
      generalize p.sum = y at *
      go_enter Tryd.func35, Tryd.ntmps35
      go_wp2_with (go_at_call 117; refine (part_Amount _ _).mono ?_; rintro e w' ⟨rfl, rfl⟩)
      go_ret
      exact ⟨by rw [E1.out]; rfl, (Keep.refl _ _).put _, by rw [E1.out]; exact HF.out⟩
    · have hm' : amtB (p.supply + n) = false := by simpa using hm
      have E1 := Lib.hid (show p.growOp n = (2, p) by unfold PS.growOp; rw [hn, hm']; rfl)
      have HP := Lib.hid hp
      clear hp hm
      generalize p.supply = z at *
      generalize p.sum = y at *
      go_enter Tryd.func35, Tryd.ntmps35
      go_wp2_with (go_at_call 117; refine (part_Amount _ _).mono ?_; rintro e w' ⟨rfl, rfl⟩)
      go_ret
      exact ⟨by rw [E1.out]; rfl, by rw [E1.out]; exact PurseP.refl HP.out⟩
  · have hn' : amtB n = false := by simpa using hn
    have E1 := Lib.hid (show p.growOp n = (2, p) by unfold PS.growOp; rw [hn']; rfl)
    have HP := Lib.hid hp
    clear hp hn
    go_enter Tryd.func35, Tryd.ntmps35
    go_wp2_with (go_at_call 117; refine (part_Amount _ _).mono ?_; rintro e w' ⟨rfl, rfl⟩)
    go_ret
    exact ⟨by rw [E1.out]; rfl, by rw [E1.out]; exact PurseP.refl HP.out⟩

theorem growOp_c {p : PS} {n : Int} : (p.growOp n).1 = 0 ∧ p.growOp n = (0, p.grow n) ∨ (p.growOp n).1 = 2 ∧ p.growOp n = (2, p) := by
  unfold PS.growOp; split <;> simp

theorem purse_Mint (A : Nat → Addr) (S : List Nat) (b : Nat) (p : PS) (o n : Int) (w : World) (hE : Errs A S w) (h2 : 2 ∈ S) (hp : PurseAt b p w) :
    Calls Tryd.prog 27 #[.pointer (some ⟨b, 0, none⟩), .int .i64 o, .int .i64 n] w fun e w' => e = .returned (ev A (p.mintOp o n).1) ∧ PurseP b (p.mintOp o n).2 w w' := by
  have HE := Lib.hid hE; clear hE
  by_cases hl : lookC o n = 0
  · obtain ⟨ho, hn0, hn1⟩ := lookC_zero.1 hl
    have el : ev A (lookC o n) = .nilIface := by rw [hl]; rfl
    rcases growOp_c (p := p) (n := n) with ⟨g1, g2⟩ | ⟨g1, g2⟩
    · have E1 := Lib.hid (show p.mintOp o n = (0, (p.grow n).change o n) by unfold PS.mintOp; rw [hl, g1]; rfl)
      have eg : ev A (p.growOp n).1 = .nilIface := by rw [g1]; rfl
      have hg : (p.growOp n).2 = p.grow n := by rw [g2]
      have hok := PS.growOp_ok hp.ok n
      rw [hg] at hok
      have c1 : 0 ≤ (p.grow n).at o + n := by have := (hok.at_bd o).1; omega
      have c2 : (p.grow n).sum + n ≤ (p.grow n).supply := by have := hp.ok.le; show p.sum + n ≤ p.supply + n; omega
      have HP := Lib.hid hp
      have HG := Lib.hid hg
      clear hl g1 g2 hp hok hg
      go_enter Tryd.func27, Tryd.ntmps27
      go_wp2_with fail
      refine (purse_look A S _ _ _ HE.out h2).mono ?_
      rintro e w' ⟨rfl, rfl⟩
      rw [el]
      go_wp2_with fail
      refine (purse_Grow A S b p n _ HE.out h2 HP.out).mono ?_
      rintro e w1 ⟨rfl, k1⟩
      rw [eg]
      rw [HG.out] at k1
      have K1 := Lib.hid k1; clear k1
      go_wp2_with fail
      refine (purse_change b (p.grow n) o n _ K1.out.2 ho c1 c2).mono ?_
      rintro e w2 ⟨rfl, k2⟩
      go_wp2
      go_ret
      exact ⟨by rw [E1.out]; rfl, by rw [E1.out]; exact K1.out.trans k2⟩
    · have E1 := Lib.hid (show p.mintOp o n = (2, p) by unfold PS.mintOp; rw [hl, g1]; rfl)
      have eg : ev A (p.growOp n).1 = .iface 273 (.pointer (some (A 2))) := by rw [g1]; rfl
      have hg : (p.growOp n).2 = p := by rw [g2]
      have HP := Lib.hid hp
      have HG := Lib.hid hg
      clear hl g1 g2 hp hg
      go_enter Tryd.func27, Tryd.ntmps27
      go_wp2_with fail
      refine (purse_look A S _ _ _ HE.out h2).mono ?_
      rintro e w' ⟨rfl, rfl⟩
      rw [el]
      go_wp2_with fail
      refine (purse_Grow A S b p n _ HE.out h2 HP.out).mono ?_
      rintro e w1 ⟨rfl, k1⟩
      rw [eg]
      rw [HG.out] at k1
      have K1 := Lib.hid k1; clear k1
      go_wp2
      go_ret
      exact ⟨by rw [E1.out]; rfl, by rw [E1.out]; exact K1.out⟩
  · have hl2 : lookC o n = 2 := by unfold lookC at hl ⊢; split at hl <;> simp_all
    have E1 := Lib.hid (show p.mintOp o n = (2, p) by unfold PS.mintOp; rw [if_pos hl])
    have el : ev A (lookC o n) = .iface 273 (.pointer (some (A 2))) := by rw [hl2]; rfl
    have HP := Lib.hid hp
    clear hl hl2 hp
    go_enter Tryd.func27, Tryd.ntmps27
    go_wp2_with fail
    refine (purse_look A S _ _ _ HE.out h2).mono ?_
    rintro e w' ⟨rfl, rfl⟩
    rw [el]
    go_wp2
    go_ret
    exact ⟨by rw [E1.out]; rfl, by rw [E1.out]; exact PurseP.refl HP.out⟩
end Go.Proofs.YtajnfkmkombajabDoor
