/- Purses as plain numbers: what each call of package purse answers and leaves. No program in sight. -/
import Derived.Test.YtajnfkmkombajaaDoorPlPart
set_option linter.unusedVariables false
set_option linter.unusedSimpArgs false
namespace Go.Proofs.YtajnfkmkombajaaDoor
open Go.RowKit

/-- a purse: what six owners have, their sum, the supply -/
structure PS where
  has : List Int
  sum : Int
  supply : Int

def PS.at (p : PS) (o : Int) : Int := p.has.getD o.toNat 0
/-- the cells of a purse -/
def PS.cells (p : PS) : List Int := p.has ++ [p.sum, p.supply]

/-- nobody owes, the sum is kept, and is at most supply; supply is an amount -/
structure PS.Ok (p : PS) : Prop where
  six : p.has.length = 6
  pos : ∀ x ∈ p.has, 0 ≤ x
  sumIs : p.has.sum = p.sum
  le : p.sum ≤ p.supply
  most : p.supply ≤ 1125899906842624

def PS.new : PS := ⟨[0, 0, 0, 0, 0, 0], 0, 0⟩
theorem PS.new_ok : PS.new.Ok := ⟨rfl, by simp [PS.new], rfl, by simp [PS.new], by simp [PS.new]⟩

theorem sum_le_of_nonneg : ∀ {l : List Int}, (∀ x ∈ l, 0 ≤ x) → ∀ i, l.getD i 0 ≤ l.sum ∧ 0 ≤ l.sum ∧ 0 ≤ l.getD i 0
  | [], _, i => by simp
  | a :: l, h, i => by
    have ha := h a (by simp)
    have ih := fun j => sum_le_of_nonneg (l := l) (fun x hx => h x (by simp [hx])) j
    cases i with
    | zero => have := ih 0; simp; omega
    | succ i => have := ih i; simp at this ⊢; omega

theorem sum_set : ∀ (l : List Int) (i : Nat) (v : Int), i < l.length → (l.set i v).sum = l.sum - l.getD i 0 + v
  | [], i, v, h => by simp at h
  | a :: l, 0, v, h => by simp; omega
  | a :: l, i + 1, v, h => by
    have := sum_set l i v (by simpa using h)
    simp only [List.set_cons_succ, List.sum_cons, List.getD_cons_succ]; omega

def ownB (o : Int) : Bool := decide (0 ≤ o) && decide (o < 6)
theorem ownB_iff {o : Int} : ownB o = true ↔ 0 ≤ o ∧ o < 6 := by simp [ownB]
theorem ownB_false {o : Int} : ownB o = false ↔ ¬ (0 ≤ o ∧ o < 6) := by rw [← ownB_iff]; simp

/-- owner o has n more (or less) -/
def PS.change (p : PS) (o n : Int) : PS := ⟨p.has.set o.toNat (p.at o + n), p.sum + n, p.supply⟩
def PS.grow (p : PS) (n : Int) : PS := ⟨p.has, p.sum, p.supply + n⟩

theorem PS.Ok.at_bd {p : PS} (h : p.Ok) (o : Int) : 0 ≤ p.at o ∧ p.at o ≤ p.sum := by
  have := sum_le_of_nonneg h.pos o.toNat; rw [h.sumIs] at this; exact ⟨this.2.2, this.1⟩
theorem PS.Ok.sum_bd {p : PS} (h : p.Ok) : 0 ≤ p.sum := by have := sum_le_of_nonneg h.pos 0; rw [h.sumIs] at this; exact this.2.1
theorem PS.Ok.change {p : PS} (h : p.Ok) {o n : Int} (ho : ownB o = true) (h1 : 0 ≤ p.at o + n) (h2 : p.sum + n ≤ p.supply) : (p.change o n).Ok := by
  rw [ownB_iff] at ho
  refine ⟨by simp [PS.change, h.six], fun x hx => ?_, ?_, h2, h.most⟩
  · rcases List.mem_or_eq_of_mem_set hx with hx | hx
    · exact h.pos x hx
    · rw [hx]; exact h1
  · simp only [PS.change]
    rw [sum_set _ _ _ (by rw [h.six]; omega), h.sumIs]
    show p.sum - p.at o + (p.at o + n) = p.sum + n
    omega
theorem PS.Ok.grow {p : PS} (h : p.Ok) {n : Int} (h1 : p.sum ≤ p.supply + n) (h2 : p.supply + n ≤ 1125899906842624) : (p.grow n).Ok := ⟨h.six, h.pos, h.sumIs, h1, h2⟩

/-- what each call answers (an error's number) and leaves -/
def lookC (o n : Int) : Nat := if ownB o && amtB n then 0 else 2
def PS.growOp (p : PS) (n : Int) : Nat × PS := if amtB n && amtB (p.supply + n) then (0, p.grow n) else (2, p)
def PS.mintOp (p : PS) (o n : Int) : Nat × PS := if lookC o n ≠ 0 then (2, p) else if (p.growOp n).1 ≠ 0 then (2, p) else (0, (p.grow n).change o n)
def PS.burnOp (p : PS) (n : Int) : Nat × PS := if amtB n = false then (2, p) else if p.supply - p.sum < n then (6, p) else (0, p.grow (-n))
def PS.outOp (p : PS) (o n : Int) : Nat × PS := if lookC o n ≠ 0 then (2, p) else if p.at o < n then (6, p) else (0, p.change o (-n))
def PS.inOp (p : PS) (o n : Int) : Nat × PS := if lookC o n ≠ 0 then (2, p) else if p.supply - p.sum < n then (6, p) else (0, p.change o n)
def PS.moveOp (p : PS) (a b n : Int) : Nat × PS := if lookC b n ≠ 0 then (2, p) else if (p.outOp a n).1 ≠ 0 then p.outOp a n else (p.outOp a n).2.inOp b n

theorem lookC_zero {o n : Int} : lookC o n = 0 ↔ ownB o = true ∧ 0 ≤ n ∧ n ≤ 1125899906842624 := by
  unfold lookC; rw [← amtB_iff]; split <;> simp_all
theorem PS.growOp_ok {p : PS} (h : p.Ok) (n : Int) : (p.growOp n).2.Ok := by
  unfold PS.growOp; split
  · next hc =>
    simp only [Bool.and_eq_true, amtB_iff] at hc
    have := h.le
    exact h.grow (by omega) hc.2.2
  · exact h
theorem PS.mintOp_ok {p : PS} (h : p.Ok) (o n : Int) : (p.mintOp o n).2.Ok := by
  unfold PS.mintOp; split
  · exact h
  · next h1 =>
    split
    · exact h
    · next h2 =>
      obtain ⟨ho, hn, _⟩ := lookC_zero.1 (Decidable.not_not.1 h1)
      have hg : (p.growOp n).1 = 0 := Decidable.not_not.1 h2
      have hc : amtB n = true ∧ amtB (p.supply + n) = true := by unfold PS.growOp at hg; split at hg <;> simp_all
      rw [amtB_iff, amtB_iff] at hc
      have hl := h.le
      have hb := h.at_bd o
      exact (h.grow (by omega) hc.2.2).change ho (by show 0 ≤ p.at o + n; omega) (by show p.sum + n ≤ p.supply + n; omega)
theorem PS.burnOp_ok {p : PS} (h : p.Ok) (n : Int) : (p.burnOp n).2.Ok := by
  unfold PS.burnOp; split
  · exact h
  · next h1 =>
    split
    · exact h
    · next h2 =>
      have hn := amtB_iff.1 (by simpa using h1)
      have := h.most
      exact h.grow (by omega) (by omega)
theorem PS.outOp_ok {p : PS} (h : p.Ok) (o n : Int) : (p.outOp o n).2.Ok := by
  unfold PS.outOp; split
  · exact h
  · next h1 =>
    split
    · exact h
    · next h2 =>
      obtain ⟨ho, hn, _⟩ := lookC_zero.1 (Decidable.not_not.1 h1)
      have := h.le
      exact h.change ho (by omega) (by omega)
theorem PS.inOp_ok {p : PS} (h : p.Ok) (o n : Int) : (p.inOp o n).2.Ok := by
  unfold PS.inOp; split
  · exact h
  · next h1 =>
    split
    · exact h
    · next h2 =>
      obtain ⟨ho, hn, _⟩ := lookC_zero.1 (Decidable.not_not.1 h1)
      have hb := h.at_bd o
      exact h.change ho (by omega) (by omega)
theorem PS.moveOp_ok {p : PS} (h : p.Ok) (a b n : Int) : (p.moveOp a b n).2.Ok := by
  unfold PS.moveOp; split
  · exact h
  · split
    · exact PS.outOp_ok h a n
    · exact PS.inOp_ok (PS.outOp_ok h a n) b n
end Go.Proofs.YtajnfkmkombajaaDoor
