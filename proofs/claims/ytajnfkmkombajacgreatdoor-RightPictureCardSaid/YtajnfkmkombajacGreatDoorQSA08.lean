/-
  Contracts of package purse.
  A slice of one-cell elements that the call owns, wherever in its block it begins: reading, l[1:], appending one element. No program in sight.
  append onto a slice of the call's own, of whatever slice of numbers. No program in sight.
-/
import Derived.Test.YtajnfkmkombajacGreatDoorQSA04
import Derived.Deep.QuietTactic
import Derived.BigQuiet
import Derived.Test.YtajnfkmkombajacGreatDoorQSA01
import Derived.Test.YtajnfkmkombajacGreatDoorQSA07
import Derived.Outline
import Derived.ArgAppend
import Derived.Deep.RegionLaw
import Derived.Laws.AppendOwnNone
set_option linter.unusedVariables false
set_option linter.unusedSimpArgs false
set_option linter.unusedVariables false
namespace Go.Proofs.YtajnfkmkombajacGreatDoor
open Go.RowKit

/-- block b is a purse that holds p -/
structure PurseAt (b : Nat) (p : PS) (w : World) : Prop where
  ok : p.Ok
  row : RowAt b 135 (p.cells.map (Value.int .i64)) w
theorem PurseAt.lt {b : Nat} {p : PS} {w : World} (h : PurseAt b p w) : b < w.heap.size := h.row.lt
theorem PurseAt.keep {F : Nat → Prop} {b : Nat} {p : PS} {w w' : World} (h : PurseAt b p w) (k : Keep F w w') (hF : ¬ F b) : PurseAt b p w' := ⟨h.ok, h.row.keep k hF⟩
theorem PurseAt.drewN {b : Nat} {p : PS} {w : World} (h : PurseAt b p w) (n : Nat) : PurseAt b p (w.drewN n) := ⟨h.ok, h.row⟩
theorem PurseAt.frozen {b : Nat} {p : PS} {w : World} (h : PurseAt b p w) (i : Nat) : w.frozen? ⟨b, i, none⟩ = false := h.row.frozen i
theorem PurseAt.has {b : Nat} {p : PS} {w : World} (h : PurseAt b p w) {k : Nat} (hk : k < 6) : w.cell? ⟨b, k, none⟩ = some (.int .i64 (p.at k)) := by
  rw [h.row.cell, List.getElem?_map, PS.cells, List.getElem?_append_left (by rw [h.ok.six]; exact hk), List.getElem?_eq_getElem (by rw [h.ok.six]; exact hk)]
  simp [PS.at, h.ok.six, hk]
theorem PurseAt.sum {b : Nat} {p : PS} {w : World} (h : PurseAt b p w) : w.cell? ⟨b, 6, none⟩ = some (.int .i64 p.sum) := by
  rw [h.row.cell, List.getElem?_map, PS.cells, List.getElem?_append_right (by rw [h.ok.six]; decide)]; simp [h.ok.six]
theorem PurseAt.supply {b : Nat} {p : PS} {w : World} (h : PurseAt b p w) : w.cell? ⟨b, 7, none⟩ = some (.int .i64 p.supply) := by
  rw [h.row.cell, List.getElem?_map, PS.cells, List.getElem?_append_right (by rw [h.ok.six]; decide)]; simp [h.ok.six]
theorem PurseAt.setSupply {b : Nat} {p : PS} {w : World} (h : PurseAt b p w) (n : Int) (hok : (p.grow n).Ok) : PurseAt b (p.grow n) (w.setCell ⟨b, 7, none⟩ (.int .i64 (p.supply + n))) := by
  refine ⟨hok, ?_⟩
  have := h.row.set 7 (.int .i64 (p.supply + n))
  have e : (p.cells.map (Value.int .i64)).set 7 (.int .i64 (p.supply + n)) = ((p.grow n).cells.map (Value.int .i64)) := by
    have h6 := h.ok.six
    obtain ⟨l, s, u⟩ := p
    match l, h6 with
    | [x0, x1, x2, x3, x4, x5], _ => rfl
  rw [← e]; exact this
theorem PurseAt.setHas {b : Nat} {p : PS} {w : World} (h : PurseAt b p w) {k : Nat} (hk : k < 6) (n : Int) (hok : (p.change k n).Ok) :
    PurseAt b (p.change k n) ((w.setCell ⟨b, k, none⟩ (.int .i64 (p.at k + n))).setCell ⟨b, 6, none⟩ (.int .i64 (p.sum + n))) := by
  refine ⟨hok, ?_⟩
  have := (h.row.set k (.int .i64 (p.at k + n))).set 6 (.int .i64 (p.sum + n))
  have e : ((p.cells.map (Value.int .i64)).set k (.int .i64 (p.at k + n))).set 6 (.int .i64 (p.sum + n)) = ((p.change k n).cells.map (Value.int .i64)) := by
    have h6 := h.ok.six
    obtain ⟨l, s, u⟩ := p
    simp only [PS.at, PS.change, PS.cells, Int.toNat_natCast]
    match l, h6 with
    | [x0, x1, x2, x3, x4, x5], _ =>
      match k, hk with
      | 0, _ => rfl
      | 1, _ => rfl
      | 2, _ => rfl
      | 3, _ => rfl
      | 4, _ => rfl
      | 5, _ => rfl
  rw [← e]; exact this

/-- the one block b may have turned; it is a purse that holds p -/
def PurseP (b : Nat) (p : PS) (w w' : World) : Prop := Keep (· = b) w w' ∧ PurseAt b p w'

theorem purse_New (w : World) :
    Calls Tryz.prog 82 #[] w fun e w' => e = .returned (.pointer (some ⟨w.heap.size, 0, none⟩)) ∧ Below w.heap.size w w' ∧ PurseAt w.heap.size PS.new w' := by
  go_enter Tryz.func82, Tryz.ntmps82
  go_wp2
  go_ret
  exact ⟨rfl, (Below.refl _ _).alloc (Nat.le_refl _) _, PS.new_ok, RowAt.new _ _ _⟩

theorem look_two {o n : Int} (h : ¬ (0 ≤ o ∧ o < 6 ∧ amtB n = true)) : lookC o n = 2 := by
  unfold lookC; rw [if_neg]; simp only [ownB, Bool.and_eq_true, decide_eq_true_eq]; exact fun hh => h ⟨hh.1.1, hh.1.2, hh.2⟩

theorem purse_look (A : Nat → Addr) (S : List Nat) (o n : Int) (w : World) (hE : Errs A S w) (h2 : 2 ∈ S) :
    Calls Tryz.prog 147 #[.int .i64 o, .int .i64 n] w fun e w' => e = .returned (ev A (lookC o n)) ∧ w = w' := by
  have g2 : w.cell? ⟨0, 0, none⟩ = some (.iface 386 (.pointer (some (A 2)))) := hE.cell 2 h2
  by_cases hc : 0 ≤ o ∧ o < 6 ∧ amtB n = true
  · have H := Lib.hid (show ev A (lookC o n) = .nilIface by rw [lookC_zero.2 ⟨ownB_iff.2 ⟨hc.1, hc.2.1⟩, amtB_iff.1 hc.2.2⟩]; rfl)
    obtain ⟨h1, h2', h3⟩ := hc
    go_enter Tryz.func147, Tryz.ntmps147
    go_wp2_with (go_at_call 90; refine (part_Amount _ _).mono ?_; rintro e w' ⟨rfl, rfl⟩)
    go_ret
    exact ⟨by rw [H.out]; rfl, rfl⟩
  · have H := Lib.hid (show ev A (lookC o n) = .iface 386 (.pointer (some (A 2))) by rw [look_two hc]; rfl)
    have hcases : o < 0 ∨ (0 ≤ o ∧ 6 ≤ o) ∨ (0 ≤ o ∧ o < 6 ∧ amtB n = false) := by
      cases h : amtB n
      · simp; omega
      · simp [h] at hc ⊢; omega
    clear hc
    rcases hcases with h1 | ⟨h1, h2'⟩ | ⟨h1, h2', h3⟩
    all_goals
      go_enter Tryz.func147, Tryz.ntmps147
      go_wp2_with (go_at_call 90; refine (part_Amount _ _).mono ?_; rintro e w' ⟨rfl, rfl⟩)
      go_ret
      exact ⟨by rw [H.out]; rfl, rfl⟩

theorem purse_Has (b : Nat) (p : PS) (o : Int) (w : World) (hp : PurseAt b p w) :
    Calls Tryz.prog 44 #[.pointer (some ⟨b, 0, none⟩), .int .i64 o] w fun e w' => e = .returned (.int .i64 (if ownB o then p.at o else 0)) ∧ w = w' := by
  by_cases ho : ownB o = true
  · rw [if_pos ho]
    obtain ⟨h0, h1⟩ := ownB_iff.1 ho
    obtain ⟨k, rfl⟩ := Int.eq_ofNat_of_zero_le h0
    have hk : k < 6 := by omega
    have hc := hp.has hk
    clear ho hp
    generalize p.at (k : Int) = x at *
    go_enter Tryz.func44, Tryz.ntmps44
    go_wp2
    go_ret
    exact ⟨rfl, rfl⟩
  · rw [if_neg ho]
    have hc : o < 0 ∨ (0 ≤ o ∧ 6 ≤ o) := by rw [ownB_iff] at ho; omega
    clear ho hp
    rcases hc with h | ⟨h, h'⟩
    all_goals
      go_enter Tryz.func44, Tryz.ntmps44
      go_wp2
      go_ret
      exact ⟨rfl, rfl⟩

theorem purse_Supply (b : Nat) (p : PS) (w : World) (hp : PurseAt b p w) :
    Calls Tryz.prog 37 #[.pointer (some ⟨b, 0, none⟩)] w fun e w' => e = .returned (.int .i64 p.supply) ∧ w = w' := by
  have hc := hp.supply
  clear hp
  generalize p.supply = x at *
  go_enter Tryz.func37, Tryz.ntmps37
  go_wp2
  go_ret
  exact ⟨rfl, rfl⟩

theorem purse_change (b : Nat) (p : PS) (o n : Int) (w : World) (hp : PurseAt b p w) (ho : ownB o = true) (h1 : 0 ≤ p.at o + n) (h2 : p.sum + n ≤ p.supply) :
    Calls Tryz.prog 149 #[.pointer (some ⟨b, 0, none⟩), .int .i64 o, .int .i64 n] w fun e w' => e = .returned (.tuple #[]) ∧ PurseP b (p.change o n) w w' := by
  obtain ⟨h0, h6⟩ := ownB_iff.1 ho
  obtain ⟨k, rfl⟩ := Int.eq_ofNat_of_zero_le h0
  have hk : k < 6 := by omega
  have hfin := hp.setHas hk n (hp.ok.change ho h1 h2)
  have hc := hp.has hk
  have hs := hp.sum
  have f1 := hp.frozen k
  have f2 := hp.frozen 6
  have b1 := hp.ok.at_bd k
  have b2 := hp.ok.le
  have b3 := hp.ok.most
  have b4 := hp.ok.sum_bd
  have HF := Lib.hid hfin; clear hfin ho hp h0 h6
  generalize hx : p.at (k : Int) = x at *
  generalize hy : p.sum = y at *
  generalize hz : p.supply = z at *
  clear hx hy hz
  go_enter Tryz.func149, Tryz.ntmps149
  go_wp2
  go_region
  go_wp2
  go_end0
  exact ⟨rfl, (((Keep.refl _ _).put _).put _).drew, HF.out.drewN 1⟩

theorem PurseP.refl {b : Nat} {p : PS} {w : World} (h : PurseAt b p w) : PurseP b p w w := ⟨Keep.refl _ _, h⟩
theorem PurseP.trans {b : Nat} {p q : PS} {w w1 w2 : World} (h : PurseP b p w w1) (k : PurseP b q w1 w2) : PurseP b q w w2 := ⟨h.1.trans k.1, k.2⟩


theorem purse_Grow (A : Nat → Addr) (S : List Nat) (b : Nat) (p : PS) (n : Int) (w : World) (hE : Errs A S w) (h2 : 2 ∈ S) (hp : PurseAt b p w) :
    Calls Tryz.prog 148 #[.pointer (some ⟨b, 0, none⟩), .int .i64 n] w fun e w' => e = .returned (ev A (p.growOp n).1) ∧ PurseP b (p.growOp n).2 w w' := by
  have g2 : w.cell? ⟨0, 0, none⟩ = some (.iface 386 (.pointer (some (A 2)))) := hE.cell 2 h2
  clear hE
  have hs := hp.supply
  have f2 := hp.frozen 7
  have b2 := hp.ok.le
  have b3 := hp.ok.most
  have b4 := hp.ok.sum_bd
  by_cases hn : amtB n = true
  · obtain ⟨n0, n1⟩ := amtB_iff.1 hn
    by_cases hm : amtB (p.supply + n) = true
    · have e1 : p.growOp n = (0, p.grow n) := by unfold PS.growOp; rw [hn, hm]; rfl
      have hok : (p.grow n).Ok := by have := PS.growOp_ok hp.ok n; rw [e1] at this; exact this
      have HF := Lib.hid (hp.setSupply n hok)
      have E1 := Lib.hid e1
      clear e1 hp
      generalize p.supply = z at *
      generalize p.sum = y at *
      go_enter Tryz.func148, Tryz.ntmps148
      go_wp2_with (go_at_call 90; refine (part_Amount _ _).mono ?_; rintro e w' ⟨rfl, rfl⟩)
      go_ret
      exact ⟨by rw [E1.out]; rfl, (Keep.refl _ _).put _, by rw [E1.out]; exact HF.out⟩
    · have hm' : amtB (p.supply + n) = false := by simpa using hm
      have E1 := Lib.hid (show p.growOp n = (2, p) by unfold PS.growOp; rw [hn, hm']; rfl)
      have HP := Lib.hid hp
      clear hp hm
      generalize p.supply = z at *
      generalize p.sum = y at *
      go_enter Tryz.func148, Tryz.ntmps148
      go_wp2_with (go_at_call 90; refine (part_Amount _ _).mono ?_; rintro e w' ⟨rfl, rfl⟩)
      go_ret
      exact ⟨by rw [E1.out]; rfl, by rw [E1.out]; exact PurseP.refl HP.out⟩
  · have hn' : amtB n = false := by simpa using hn
    have E1 := Lib.hid (show p.growOp n = (2, p) by unfold PS.growOp; rw [hn']; rfl)
    have HP := Lib.hid hp
    clear hp hn
    go_enter Tryz.func148, Tryz.ntmps148
    go_wp2_with (go_at_call 90; refine (part_Amount _ _).mono ?_; rintro e w' ⟨rfl, rfl⟩)
    go_ret
    exact ⟨by rw [E1.out]; rfl, by rw [E1.out]; exact PurseP.refl HP.out⟩

theorem growOp_c {p : PS} {n : Int} : (p.growOp n).1 = 0 ∧ p.growOp n = (0, p.grow n) ∨ (p.growOp n).1 = 2 ∧ p.growOp n = (2, p) := by
  unfold PS.growOp; split <;> simp

theorem purse_Mint (A : Nat → Addr) (S : List Nat) (b : Nat) (p : PS) (o n : Int) (w : World) (hE : Errs A S w) (h2 : 2 ∈ S) (hp : PurseAt b p w) :
    Calls Tryz.prog 84 #[.pointer (some ⟨b, 0, none⟩), .int .i64 o, .int .i64 n] w fun e w' => e = .returned (ev A (p.mintOp o n).1) ∧ PurseP b (p.mintOp o n).2 w w' := by
  have HE := Lib.hid hE; clear hE
  by_cases hl : lookC o n = 0
  · obtain ⟨ho, hn0, hn1⟩ := lookC_zero.1 hl
    have el : ev A (lookC o n) = .nilIface := by rw [hl]; rfl
    rcases growOp_c (p := p) (n := n) with ⟨g1, g2⟩ | ⟨g1, g2⟩
    · have E1 := Lib.hid (show p.mintOp o n = (0, (p.grow n).change o n) by unfold PS.mintOp; rw [hl, g1]; rfl)
      have eg : ev A (p.growOp n).1 = .nilIface := by rw [g1]; rfl
      have hg : (p.growOp n).2 = p.grow n := by rw [g2]
      have hok := PS.growOp_ok hp.ok n
      rw [hg] at hok
      have c1 : 0 ≤ (p.grow n).at o + n := by have := (hok.at_bd o).1; omega
      have c2 : (p.grow n).sum + n ≤ (p.grow n).supply := by have := hp.ok.le; show p.sum + n ≤ p.supply + n; omega
      have HP := Lib.hid hp
      have HG := Lib.hid hg
      clear hl g1 g2 hp hok hg
      go_enter Tryz.func84, Tryz.ntmps84
      go_wp2_with fail
      refine (purse_look A S _ _ _ HE.out h2).mono ?_
      rintro e w' ⟨rfl, rfl⟩
      rw [el]
      go_wp2_with fail
      refine (purse_Grow A S b p n _ HE.out h2 HP.out).mono ?_
      rintro e w1 ⟨rfl, k1⟩
      rw [eg]
      rw [HG.out] at k1
      have K1 := Lib.hid k1; clear k1
      go_wp2_with fail
      refine (purse_change b (p.grow n) o n _ K1.out.2 ho c1 c2).mono ?_
      rintro e w2 ⟨rfl, k2⟩
      go_wp2
      go_ret
      exact ⟨by rw [E1.out]; rfl, by rw [E1.out]; exact K1.out.trans k2⟩
    · have E1 := Lib.hid (show p.mintOp o n = (2, p) by unfold PS.mintOp; rw [hl, g1]; rfl)
      have eg : ev A (p.growOp n).1 = .iface 386 (.pointer (some (A 2))) := by rw [g1]; rfl
      have hg : (p.growOp n).2 = p := by rw [g2]
      have HP := Lib.hid hp
      have HG := Lib.hid hg
      clear hl g1 g2 hp hg
      go_enter Tryz.func84, Tryz.ntmps84
      go_wp2_with fail
      refine (purse_look A S _ _ _ HE.out h2).mono ?_
      rintro e w' ⟨rfl, rfl⟩
      rw [el]
      go_wp2_with fail
      refine (purse_Grow A S b p n _ HE.out h2 HP.out).mono ?_
      rintro e w1 ⟨rfl, k1⟩
      rw [eg]
      rw [HG.out] at k1
      have K1 := Lib.hid k1; clear k1
      go_wp2
      go_ret
      exact ⟨by rw [E1.out]; rfl, by rw [E1.out]; exact K1.out⟩
  · have hl2 : lookC o n = 2 := by unfold lookC at hl ⊢; split at hl <;> simp_all
    have E1 := Lib.hid (show p.mintOp o n = (2, p) by unfold PS.mintOp; rw [if_pos hl])
    have el : ev A (lookC o n) = .iface 386 (.pointer (some (A 2))) := by rw [hl2]; rfl
    have HP := Lib.hid hp
    clear hl hl2 hp
    go_enter Tryz.func84, Tryz.ntmps84
    go_wp2_with fail
    refine (purse_look A S _ _ _ HE.out h2).mono ?_
    rintro e w' ⟨rfl, rfl⟩
    rw [el]
    go_wp2
    go_ret
    exact ⟨by rw [E1.out]; rfl, by rw [E1.out]; exact PurseP.refl HP.out⟩
end Go.Proofs.YtajnfkmkombajacGreatDoor
namespace Go.Proofs.YtajnfkmkombajacGreatDoor
open Go.RowKit

/-- v is nil, or lies in a block from base on that may be written whole; it reads as xs -/
def OwnSl (base : Nat) (e : TypeId) (v : Value) (xs : List Value) (w : World) : Prop :=
  (v = .slice none 0 0 ∧ xs = []) ∨
  ∃ g off cap cur, v = .slice (some ⟨g, off, none⟩) xs.length cap ∧ base ≤ g ∧ w.heap[g]? = some (.cells cur e (0, 0)) ∧ xs.length ≤ cap ∧ cap ≤ maxLen ∧ off + cap ≤ cur.size ∧ (cur.toList.drop off).take xs.length = xs

section
variable {base : Nat} {e : TypeId} {v : Value} {xs : List Value} {w w' : World}

theorem OwnSl.nil (base : Nat) (e : TypeId) (w : World) : OwnSl base e (.slice none 0 0) [] w := .inl ⟨rfl, rfl⟩
theorem OwnSl.shape (h : OwnSl base e v xs w) : ∃ ao cap, v = .slice ao xs.length cap ∧ xs.length ≤ cap ∧ cap ≤ maxLen := by
  rcases h with ⟨rfl, rfl⟩ | ⟨g, off, cap, cur, rfl, _, _, h1, h2, _⟩
  · exact ⟨none, 0, rfl, Nat.le_refl _, by simp⟩
  · exact ⟨_, cap, rfl, h1, h2⟩
theorem OwnSl.blk (h : OwnSl base e v xs w) {k : Nat} (hk : v.ownBlock = some k) : base ≤ k ∧ k < w.heap.size := by
  rcases h with ⟨rfl, _⟩ | ⟨g, off, cap, cur, rfl, hb, hg, _⟩
  · cases hk
  · cases hk; exact ⟨hb, lt_of_block hg⟩
theorem OwnSl.kept (h : OwnSl base e v xs w) (hk : ∀ g, v.ownBlock = some g → w'.heap[g]? = w.heap[g]?) : OwnSl base e v xs w' := by
  rcases h with h | ⟨g, off, cap, cur, rfl, hb, hg, r⟩
  · exact .inl h
  · exact .inr ⟨g, off, cap, cur, rfl, hb, by rw [hk g rfl]; exact hg, r⟩
theorem OwnSl.keep {F : Nat → Prop} (h : OwnSl base e v xs w) (k : Keep F w w') (hF : ∀ g, v.ownBlock = some g → ¬ F g) : OwnSl base e v xs w' :=
  h.kept fun g hg => k.block g (h.blk hg).2 (hF g hg)
theorem OwnSl.alloc (h : OwnSl base e v xs w) (o : Obj) : OwnSl base e v xs (w.alloc o) := h.kept fun g hg => Below.heap_alloc _ _ _ (h.blk hg).2
theorem OwnSl.setCell_other (h : OwnSl base e v xs w) {a : Addr} (ha : v.ownBlock ≠ some a.block) (u : Value) : OwnSl base e v xs (w.setCell a u) :=
  h.kept fun g hg => Below.heap_setCell _ _ _ _ (by rintro rfl; exact ha hg)
theorem OwnSl.grown {row : Option Nat} (h : OwnSl base e v xs w) (hg : w.grownBy w' row) (hne : ∀ g, v.ownBlock = some g → some g ≠ row) : OwnSl base e v xs w' :=
  h.kept fun g hv => hg.block g (h.blk hv).2 (hne g hv)
theorem OwnSl.mono {base' : Nat} (h : OwnSl base e v xs w) (hb : base' ≤ base) : OwnSl base' e v xs w := by
  rcases h with h | ⟨g, off, cap, cur, rfl, h1, r⟩
  · exact .inl h
  · exact .inr ⟨g, off, cap, cur, rfl, by omega, r⟩

theorem OwnSl.of_own {n : Nat} (h : w.ownsRow base e 1 v n xs) : OwnSl base e v xs w := by
  have hl : xs.length = n := by have := h.1; omega
  subst hl
  rcases h.2 with ⟨hv, hn⟩ | ⟨g, cap, cur, hv, hb, hg, hnc, hcm, hcs, ht⟩
  · exact .inl ⟨hv, List.eq_nil_of_length_eq_zero hn⟩
  · exact .inr ⟨g, 0, cap, cur, hv, hb, hg, hnc, hcm, by omega, by simpa using ht⟩

theorem sl_cell {cur : Array Value} {off i n : Nat} {xs : List Value} (h : (cur.toList.drop off).take n = xs) (hi : i < n) : cur[off + i]? = xs[i]? := by
  rw [← h, List.getElem?_take, if_pos hi, List.getElem?_drop]; simp

/-- its cells -/
theorem OwnSl.cells (h : OwnSl base e v xs w) (h0 : 0 < xs.length) : ∃ g off cap, v = .slice (some ⟨g, off, none⟩) xs.length cap ∧ base ≤ g ∧ g < w.heap.size ∧ xs.length ≤ cap ∧ cap ≤ maxLen ∧ ∀ i, i < xs.length → w.cell? ⟨g, off + i, none⟩ = xs[i]? := by
  rcases h with ⟨_, rfl⟩ | ⟨g, off, cap, cur, rfl, hb, hg, h1, h2, h3, h4⟩
  · simp at h0
  · refine ⟨g, off, cap, rfl, hb, lt_of_block hg, h1, h2, fun i hi => ?_⟩
    rw [← sl_cell h4 hi]; simp [World.cell?, hg]

theorem tail_step {cur : Array Value} {off cap : Nat} {x : Value} {xs : List Value} (h1 : xs.length + 1 ≤ cap) (h4 : (cur.toList.drop off).take (xs.length + 1) = x :: xs) : (cur.toList.drop (if cap = 1 then off else off + 1)).take xs.length = xs := by
  have hx : (cur.toList.drop (off + 1)).take xs.length = xs := by
    have := congrArg List.tail h4
    rw [List.tail_cons] at this
    rw [← this]
    cases hd : cur.toList.drop off with
    | nil => rw [hd] at h4; simp at h4
    | cons y ys => rw [← List.tail_drop, hd]; simp
  split
  · have : xs = [] := List.eq_nil_of_length_eq_zero (by omega)
    subst this; simp
  · exact hx

/-- l[1:] -/
theorem OwnSl.tail {P : Program} {t : TypeId} {x : Value} (ht : P.underlying t = some (.slice (P.elem t))) (hsz : ∀ wx : World, (sizeOf (P.elem t)).run P wx = .ok 1 wx) (k : IntKind) (h : OwnSl base e v (x :: xs) w) :
    ∃ v', (∀ wx : World, (Instr.slice t v (some (.int k 1)) none none).run P wx = .ok v' wx) ∧ (∀ w2 : World, OwnSl base e v (x :: xs) w2 → OwnSl base e v' xs w2) ∧ (∃ ao cap, v' = .slice ao xs.length cap) ∧ v'.ownBlock = v.ownBlock := by
  rcases h with ⟨_, h⟩ | ⟨g, off, cap, cur, rfl, hb, hg, h1, h2, h3, h4⟩
  · cases h
  · simp only [List.length_cons] at h1 h3 h4 ⊢
    refine ⟨.slice (some (if cap = 1 then ⟨g, off, none⟩ else ⟨g, off + 1, none⟩)) xs.length (cap - 1), fun wx => ?_, fun w2 h' => ?_, ⟨_, _, rfl⟩, ?_⟩
    · rw [run_slice_l wx t _ _ _ ht k 1 (by omega) (by omega), hsz]
      simp only [Result.andThen, sliced, Int.toNat_one, Nat.one_mul, Nat.add_sub_cancel]
      by_cases hc : cap = 1
      · simp [hc]
      · simp [hc, Addr.add]
    · clear hg h2 h3 h4
      rcases h' with ⟨_, h⟩ | ⟨g', off', cap', cur', hv, hb', hg, h1', h2, h3, h4⟩
      · cases h
      · cases hv
        simp only [List.length_cons] at h4
        refine .inr ⟨g, if cap = 1 then off else off + 1, cap - 1, cur', ?_, hb, hg, by omega, by omega, by split <;> omega, tail_step h1 h4⟩
        split <;> simp
    · split <;> rfl

/-- one element is appended -/
theorem run_append_sl {P : Program} (w : World) (t ty : TypeId) (base : Nat) (e : TypeId) (i : TypeInfo) (z : Value) (bytes : Nat) (ht : P.underlying t = some (.slice e)) (hi : P.info? e = some i) (hz : i.zero = some z)
    (hsize : i.size = 1) (hby : i.bytes = bytes) (hzs : z.cells.size = 1)
    (v : Value) (xs : List Value) (hown : OwnSl base e v xs w) (ad : Addr) (x : Value) (hc : ∀ j u, [x][j]? = some u → w.cell? (ad.add j) = some u) (h1 : ∀ u ∈ [x], u.oneCell' = true)
    (h63 : xs.length + 1 ≤ maxLen) (hbytes : (xs.length + 1) * bytes ≤ 140737488355328) (hbase : base ≤ w.heap.size) :
    ∃ v' w', (Builtin.append_ #[t, t] ty #[v, .slice (some ad) 1 1]).run P w = .ok v' w' ∧ OwnSl base e v' (xs ++ [x]) w' ∧ w.grownBy w' v.ownBlock ∧ (v'.ownBlock = v.ownBlock ∨ v'.ownBlock = some w.heap.size) := by
  rcases hown with ⟨rfl, rfl⟩ | ⟨g, off, cap, cur, rfl, hb, hg, hl1, hl2, hl3, hl4⟩
  · obtain ⟨v', w', hr, h2, h3, _, h5⟩ := run_append_own_at (P := P) w base t ty e i z 1 bytes ht hi hz hsize hby hzs (by decide) (.slice none 0 0) 0 [] (World.ownsRow_nil _ _ _ _) ad 1 1 [x] rfl hc h1 h63 hbytes hbase
    exact ⟨v', w', hr, OwnSl.of_own h2, h3, h5⟩
  · by_cases hroom : xs.length + 1 ≤ cap
    · have hlt := lt_of_block hg
      have hr := run_append_room_cells (P := P) w t ty e i ht hi g off xs.length cap ad 1 1 [x] (by simp [hsize]) hc h1 hroom
        (fun j hj => by simp at hj; subst hj; simp [World.cell?, hg, hsize]; omega) (fun j hj => by simp [World.frozen?, hg])
      refine ⟨_, _, hr, ?_, ?_, .inl rfl⟩
      · simp only [World.setCells, hsize, Nat.mul_one]
        have hgs : (w.setCell ⟨g, off + xs.length, none⟩ x).heap[g]? = some (.cells (cur.setIfInBounds (off + xs.length) x) e (0, 0)) := by
          have h' : w.heap[g] = .cells cur e (0, 0) := by simpa [Array.getElem?_eq_getElem hlt] using hg
          show (w.heap.modify g _)[g]? = _
          rw [Array.getElem?_eq_getElem (by simpa using hlt), Array.getElem_modify_self, h']
          simp
        refine .inr ⟨g, off, cap, _, by simp, hb, hgs, by simp; omega, hl2, by simpa using hl3, ?_⟩
        apply List.ext_getElem?
        intro k
        rw [List.getElem?_take]
        split
        · next hk =>
          rw [List.getElem?_drop, Array.getElem?_toList, Array.getElem?_setIfInBounds]
          simp only [List.length_append, List.length_cons, List.length_nil, Nat.zero_add] at hk
          by_cases hkk : k = xs.length
          · subst hkk
            rw [if_pos rfl, if_pos (by omega)]; simp
          · rw [if_neg (by omega), sl_cell hl4 (by omega), List.getElem?_append_left (by omega)]
        · next hk =>
          rw [List.getElem?_eq_none (by omega)]
      · simp only [World.setCells, hsize, Nat.mul_one]
        exact ⟨rfl, rfl, rfl, by simp [World.setCell], fun k hk hne => Below.heap_setCell _ _ _ _ (fun e => hne (by simp [Value.ownBlock, e]))⟩
    · obtain ⟨v', w', hr, h2, h3⟩ := run_append_arg_grows (P := P) w t ty e i z 1 bytes ht hi hz hsize hby hzs (by decide) ⟨g, off, none⟩ xs.length cap xs (by simp)
        (fun j u hj => by
          rw [Addr.add_lit]
          have hj' : j < xs.length := (List.getElem?_eq_some_iff.1 hj).1
          rw [← hj, ← sl_cell hl4 hj']; simp [World.cell?, hg]) ad 1 1 [x] rfl hc (by omega) h63 hbytes
      have hb2 := (OwnSl.of_own h2)
      have hg2 : w.grownBy w' (Value.ownBlock (.slice (some ⟨g, off, none⟩) xs.length cap)) := ⟨h3.os, h3.tape, h3.output, h3.size, fun k hk _ => h3.block k hk (by simp)⟩
      have hr' := run_append_grow (P := P) w t ty e i z ht hi hz ⟨g, off, none⟩ xs.length cap xs (by simp [hsize]) (fun j u hj => by
          rw [Addr.add_lit]
          have hj' : j < xs.length := (List.getElem?_eq_some_iff.1 hj).1
          rw [← hj, ← sl_cell hl4 hj']; simp [World.cell?, hg]) ad 1 1 [x] (by simp [hsize]) hc (by omega) (by simp only [maxLen] at h63; omega) (growslice_fits (by omega) (by rw [hby]; exact hbytes))
      rw [hr'] at hr
      have hv : v' = .slice (some ⟨w.heap.size, 0, none⟩) (xs.length + 1) (grownCap w (xs.length + 1) cap e) := by cases hr; rfl
      exact ⟨v', w', by rw [hr']; exact hr, hb2.mono hbase, hg2, .inr (by rw [hv]; rfl)⟩

/-- At the operation's list: for the walk. -/
theorem wpList_append_sl {P : Program} (w : World) {ops : Array Oper} {rest : List Oper} {o : Oper} {a : Act} {Q : Exit → Act → World → Prop} (hgd : o.guard = none) (s x : Operand) (t : TypeId)
    (ho : o.op = .call { callee := .builtin .append, args := #[s, x], argTypes := #[t, t] })
    (base : Nat) (e : TypeId) (i : TypeInfo) (z : Value) (bytes : Nat) (ht : P.underlying t = some (.slice e)) (hi : P.info? e = some i) (hz : i.zero = some z)
    (hsize : i.size = 1) (hby : i.bytes = bytes) (hzs : z.cells.size = 1)
    (v : Value) (xs : List Value) (hs : a.eval s = v) (hown : OwnSl base e v xs w)
    (ad : Addr) (u : Value) (hx : a.eval x = .slice (some ad) 1 1) (hc : ∀ j y, [u][j]? = some y → w.cell? (ad.add j) = some y) (h1 : ∀ y ∈ [u], y.oneCell' = true)
    (h63 : xs.length + 1 ≤ maxLen) (hbytes : (xs.length + 1) * bytes ≤ 140737488355328) (hbase : base ≤ w.heap.size)
    (h : ∀ v' w', OwnSl base e v' (xs ++ [u]) w' → w.grownBy w' v.ownBlock → (v'.ownBlock = v.ownBlock ∨ v'.ownBlock = some w.heap.size) → wpList P ops Q rest (a.put o.dst v') w') : wpList P ops Q (o :: rest) a w := by
  refine wpList_plain hgd fun K hK => ?_
  obtain ⟨v', w', hr, h2, h3, h4⟩ := run_append_sl (P := P) w t o.type base e i z bytes ht hi hz hsize hby hzs v xs hown ad u hc h1 h63 hbytes hbase
  unfold Oper.wp execOp
  simp only [ho, resolve, invoke, builtin, Sem.run_bind, Sem.run_pure, Result.andThen_ok, List.map_toArray, List.map_cons, List.map_nil, hs, hx, hr]
  exact hK _ _ (h v' w' h2 h3 h4)

/-- At a step of a region that draws its order: for go_region_law. -/
theorem step_append_sl {P : Program} {ops : Array Oper} {o : Oper} {a : Act} {w : World} {K : Act → World → Prop} {Q : Exit → Act → World → Prop} {E : Prop} (hgd : o.guard = none) (s x : Operand) (t : TypeId)
    (ho : o.op = .call { callee := .builtin .append, args := #[s, x], argTypes := #[t, t] })
    (base : Nat) (e : TypeId) (i : TypeInfo) (z : Value) (bytes : Nat) (ht : P.underlying t = some (.slice e)) (hi : P.info? e = some i) (hz : i.zero = some z)
    (hsize : i.size = 1) (hby : i.bytes = bytes) (hzs : z.cells.size = 1)
    (v : Value) (xs : List Value) (hs : a.eval s = v) (hown : OwnSl base e v xs w)
    (ad : Addr) (u : Value) (hx : a.eval x = .slice (some ad) 1 1) (hc : ∀ j y, [u][j]? = some y → w.cell? (ad.add j) = some y) (h1 : ∀ y ∈ [u], y.oneCell' = true)
    (h63 : xs.length + 1 ≤ maxLen) (hbytes : (xs.length + 1) * bytes ≤ 140737488355328) (hbase : base ≤ w.heap.size)
    (h : ∀ v' w', OwnSl base e v' (xs ++ [u]) w' → w.grownBy w' v.ownBlock → (v'.ownBlock = v.ownBlock ∨ v'.ownBlock = some w.heap.size) → K (a.put o.dst v') w') :
    if Region.wanted o (yielded ops a.tmps) = true then Oper.wp P o a w K Q else E := by
  have hw : Region.wanted o (yielded ops a.tmps) = true := by simp [Region.wanted, hgd]
  rw [if_pos hw]
  obtain ⟨v', w', hr, h2, h3, h4⟩ := run_append_sl (P := P) w t o.type base e i z bytes ht hi hz hsize hby hzs v xs hown ad u hc h1 h63 hbytes hbase
  unfold Oper.wp execOp
  simp only [ho, resolve, invoke, builtin, Sem.run_bind, Sem.run_pure, Result.andThen_ok, List.map_toArray, List.map_cons, List.map_nil, hs, hx, hr]
  exact h v' w' h2 h3 h4
end
end Go.Proofs.YtajnfkmkombajacGreatDoor
namespace Go.Proofs.YtajnfkmkombajacGreatDoor
open Go.RowKit

theorem RdI.of_sl {k : IntKind} {base : Nat} {e : TypeId} {w : World} {ao : Option Addr} {n cap : Nat} {zs : List Int} (h : OwnSl base e (.slice ao n cap) (zs.map (Value.int k)) w) : RdI k w ao zs.length cap zs := by
  rcases h with ⟨hv, hn⟩ | ⟨g, off, cap', cur, hv, hb, hg, h1, h2, h3, h4⟩
  · cases hv
    have : zs = [] := by simpa using hn
    subst this
    exact RdI.nil k w
  · cases hv
    simp only [List.length_map] at h1 h4
    refine ⟨rfl, h1, h2, fun h => (by cases h), fun i hi => ⟨g, off, rfl, ?_⟩⟩
    have := sl_cell h4 hi
    simp only [World.cell?, hg]
    simpa [List.getD_eq_getElem?_getD, hi] using this

theorem run_append_rd {P : Program} (w : World) (t ty : TypeId) (base : Nat) (e : TypeId) (i : TypeInfo) (z : Value) (bytes : Nat) (ht : P.underlying t = some (.slice e)) (hi : P.info? e = some i) (hz : i.zero = some z)
    (hsize : i.size = 1) (hby : i.bytes = bytes) (hzs : z.cells.size = 1) (v : Value) (n : Nat) (xs : List Value) (hown : w.ownsRow base e 1 v n xs)
    (k : IntKind) (ao : Option Addr) (len cap : Nat) (zs : List Int) (R : RdI k w ao len cap zs) (h63 : n + len ≤ maxLen) (hbytes : (n + len) * bytes ≤ 140737488355328) (hbase : base ≤ w.heap.size) :
    ∃ v' w', (Builtin.append_ #[t, t] ty #[v, .slice ao len cap]).run P w = .ok v' w' ∧ w'.ownsRow base e 1 v' (n + len) (xs ++ zs.map (Value.int k)) ∧ w.grownBy w' v.ownBlock := by
  have hone : ∀ u ∈ zs.map (Value.int k), u.oneCell' = true := by intro u hu; obtain ⟨x, _, rfl⟩ := List.mem_map.1 hu; rfl
  cases ao with
  | none =>
    obtain rfl : cap = 0 := R.nul rfl
    obtain rfl : len = 0 := by have := R.lc; omega
    obtain rfl : zs = [] := List.eq_nil_of_length_eq_zero R.size
    have hrun := run_append_owned_none (P := P) (w := w) base t ty e i 1 ht hi v n xs hown
    exact ⟨v, w, hrun, by simpa using hown, ⟨rfl, rfl, rfl, Nat.le_refl _, fun _ _ _ => rfl⟩⟩
  | some a =>
    have hcs : ∀ j u, (zs.map (Value.int k))[j]? = some u → w.cell? (a.add j) = some u := by
      intro j u hj
      rw [List.getElem?_map] at hj
      obtain ⟨x, hx, rfl⟩ := Option.map_eq_some_iff.1 hj
      have hjl : j < zs.length := (List.getElem?_eq_some_iff.1 hx).1
      obtain ⟨b, off, ha, hc⟩ := R.cells j (by rw [← R.size]; exact hjl)
      cases ha
      rw [List.getD_eq_getElem?_getD, hx] at hc
      rw [Addr.add_lit, hc]; rfl
    obtain ⟨v', w', hr, h2, h3, _⟩ := run_append_own (P := P) w base t ty e i z 1 bytes ht hi hz hsize hby hzs (by decide) v n xs hown a len cap (zs.map (Value.int k)) (by rw [List.length_map, R.size, Nat.mul_one]) hcs hone h63 hbytes hbase
    exact ⟨v', w', hr, h2, h3⟩

theorem wpList_append_rd {P : Program} (w : World) {ops : Array Oper} {rest : List Oper} {o : Oper} {a : Act} {Q : Exit → Act → World → Prop} (hgd : o.guard = none) (s x : Operand) (t : TypeId)
    (ho : o.op = .call { callee := .builtin .append, args := #[s, x], argTypes := #[t, t] })
    (base : Nat) (e : TypeId) (i : TypeInfo) (z : Value) (bytes : Nat) (ht : P.underlying t = some (.slice e)) (hi : P.info? e = some i) (hz : i.zero = some z)
    (hsize : i.size = 1) (hby : i.bytes = bytes) (hzs : z.cells.size = 1) (v : Value) (n : Nat) (xs : List Value) (hs : a.eval s = v) (hown : w.ownsRow base e 1 v n xs)
    (k : IntKind) (ao : Option Addr) (len cap : Nat) (zs : List Int) (hx : a.eval x = .slice ao len cap) (R : RdI k w ao len cap zs) (h63 : n + len ≤ maxLen) (hbytes : (n + len) * bytes ≤ 140737488355328) (hbase : base ≤ w.heap.size)
    (h : ∀ v' w', w'.ownsRow base e 1 v' (n + len) (xs ++ zs.map (Value.int k)) → w.grownBy w' v.ownBlock → wpList P ops Q rest (a.put o.dst v') w') : wpList P ops Q (o :: rest) a w := by
  refine wpList_plain hgd fun K hK => ?_
  obtain ⟨v', w', hr, h2, h3⟩ := run_append_rd (P := P) w t o.type base e i z bytes ht hi hz hsize hby hzs v n xs hown k ao len cap zs R h63 hbytes hbase
  unfold Oper.wp execOp
  simp only [ho, resolve, invoke, builtin, Sem.run_bind, Sem.run_pure, Result.andThen_ok, List.map_toArray, List.map_cons, List.map_nil, hs, hx, hr]
  exact hK _ _ (h v' w' h2 h3)
end Go.Proofs.YtajnfkmkombajacGreatDoor
