/-
  Plain: what package part reckons. No program in sight.
  Purses as plain numbers: what each call of package purse answers and leaves. No program in sight.
  Pools as plain numbers: what each call of package pool answers and leaves. No program in sight.
  Fairness of each act on a pool, in plain numbers. No program in sight.
-/
import Derived.WalkKit
set_option linter.unusedVariables false
set_option linter.unusedSimpArgs false
set_option linter.unusedVariables false
namespace Go.Proofs.YtajnfkmkombajabGreatDoor
open Go.RowKit

/-- 2^50 -/
abbrev MaxA : Int := 1125899906842624
/-- is it an amount? -/
def amtB (n : Int) : Bool := decide (0 ≤ n) && decide (n ≤ 1125899906842624)
theorem amtB_iff {n : Int} : amtB n = true ↔ 0 ≤ n ∧ n ≤ 1125899906842624 := by simp [amtB]
theorem amtB_false {n : Int} : amtB n = false ↔ ¬ (0 ≤ n ∧ n ≤ 1125899906842624) := by rw [← amtB_iff]; simp

/-- may a times b over c be told, and is it an amount? -/
def overOk (a b c : Int) : Prop := (0 ≤ a ∧ a ≤ 1125899906842624) ∧ (0 ≤ b ∧ b ≤ 1125899906842624) ∧ (1 ≤ c ∧ c ≤ 1125899906842624) ∧ a * b / c ≤ 1125899906842624
instance (a b c : Int) : Decidable (overOk a b c) := by unfold overOk; infer_instance
def overC (a b c : Int) : Nat := if overOk a b c then 0 else 2
def overN (a b c : Int) : Int := if overOk a b c then a * b / c else 0
def overR (a b c : Int) : Int := if overOk a b c then a * b % c else 0
theorem over_yes {a b c : Int} (h : overOk a b c) : overC a b c = 0 ∧ overN a b c = a * b / c ∧ overR a b c = a * b % c := by simp [overC, overN, overR, h]
theorem over_no {a b c : Int} (h : ¬ overOk a b c) : overC a b c = 2 ∧ overN a b c = 0 ∧ overR a b c = 0 := by simp [overC, overN, overR, h]

def upOk (a b c : Int) : Prop := overOk a b c ∧ a * b / c + (if a * b % c = 0 then 0 else 1) ≤ 1125899906842624
instance (a b c : Int) : Decidable (upOk a b c) := by unfold upOk; infer_instance
def upC (a b c : Int) : Nat := if upOk a b c then 0 else 2
def upN (a b c : Int) : Int := if upOk a b c then a * b / c + (if a * b % c = 0 then 0 else 1) else 0
theorem up_yes {a b c : Int} (h : upOk a b c) : upC a b c = 0 ∧ upN a b c = a * b / c + (if a * b % c = 0 then 0 else 1) := by simp [upC, upN, h]
theorem up_no {a b c : Int} (h : ¬ upOk a b c) : upC a b c = 2 ∧ upN a b c = 0 := by simp [upC, upN, h]
end Go.Proofs.YtajnfkmkombajabGreatDoor
namespace Go.Proofs.YtajnfkmkombajabGreatDoor
open Go.RowKit

/-- a purse: what six owners have, their sum, the supply -/
structure PS where
  has : List Int
  sum : Int
  supply : Int

def PS.at (p : PS) (o : Int) : Int := p.has.getD o.toNat 0
/-- the cells of a purse -/
def PS.cells (p : PS) : List Int := p.has ++ [p.sum, p.supply]

/-- nobody owes, the sum is kept, and is at most supply; supply is an amount -/
structure PS.Ok (p : PS) : Prop where
  six : p.has.length = 6
  pos : ∀ x ∈ p.has, 0 ≤ x
  sumIs : p.has.sum = p.sum
  le : p.sum ≤ p.supply
  most : p.supply ≤ 1125899906842624

def PS.new : PS := ⟨[0, 0, 0, 0, 0, 0], 0, 0⟩
theorem PS.new_ok : PS.new.Ok := ⟨rfl, by simp [PS.new], rfl, by simp [PS.new], by simp [PS.new]⟩

theorem sum_le_of_nonneg : ∀ {l : List Int}, (∀ x ∈ l, 0 ≤ x) → ∀ i, l.getD i 0 ≤ l.sum ∧ 0 ≤ l.sum ∧ 0 ≤ l.getD i 0
  | [], _, i => by simp
  | a :: l, h, i => by
    have ha := h a (by simp)
    have ih := fun j => sum_le_of_nonneg (l := l) (fun x hx => h x (by simp [hx])) j
    cases i with
    | zero => have := ih 0; simp; omega
    | succ i => have := ih i; simp at this ⊢; omega

theorem sum_set : ∀ (l : List Int) (i : Nat) (v : Int), i < l.length → (l.set i v).sum = l.sum - l.getD i 0 + v
  | [], i, v, h => by simp at h
  | a :: l, 0, v, h => by simp; omega
  | a :: l, i + 1, v, h => by
    have := sum_set l i v (by simpa using h)
    simp only [List.set_cons_succ, List.sum_cons, List.getD_cons_succ]; omega

def ownB (o : Int) : Bool := decide (0 ≤ o) && decide (o < 6)
theorem ownB_iff {o : Int} : ownB o = true ↔ 0 ≤ o ∧ o < 6 := by simp [ownB]
theorem ownB_false {o : Int} : ownB o = false ↔ ¬ (0 ≤ o ∧ o < 6) := by rw [← ownB_iff]; simp

/-- owner o has n more (or less) -/
def PS.change (p : PS) (o n : Int) : PS := ⟨p.has.set o.toNat (p.at o + n), p.sum + n, p.supply⟩
def PS.grow (p : PS) (n : Int) : PS := ⟨p.has, p.sum, p.supply + n⟩

theorem PS.Ok.at_bd {p : PS} (h : p.Ok) (o : Int) : 0 ≤ p.at o ∧ p.at o ≤ p.sum := by
  have := sum_le_of_nonneg h.pos o.toNat; rw [h.sumIs] at this; exact ⟨this.2.2, this.1⟩
theorem PS.Ok.sum_bd {p : PS} (h : p.Ok) : 0 ≤ p.sum := by have := sum_le_of_nonneg h.pos 0; rw [h.sumIs] at this; exact this.2.1
theorem PS.Ok.change {p : PS} (h : p.Ok) {o n : Int} (ho : ownB o = true) (h1 : 0 ≤ p.at o + n) (h2 : p.sum + n ≤ p.supply) : (p.change o n).Ok := by
  rw [ownB_iff] at ho
  refine ⟨by simp [PS.change, h.six], fun x hx => ?_, ?_, h2, h.most⟩
  · rcases List.mem_or_eq_of_mem_set hx with hx | hx
    · exact h.pos x hx
    · rw [hx]; exact h1
  · simp only [PS.change]
    rw [sum_set _ _ _ (by rw [h.six]; omega), h.sumIs]
    show p.sum - p.at o + (p.at o + n) = p.sum + n
    omega
theorem PS.Ok.grow {p : PS} (h : p.Ok) {n : Int} (h1 : p.sum ≤ p.supply + n) (h2 : p.supply + n ≤ 1125899906842624) : (p.grow n).Ok := ⟨h.six, h.pos, h.sumIs, h1, h2⟩

/-- what each call answers (an error's number) and leaves -/
def lookC (o n : Int) : Nat := if ownB o && amtB n then 0 else 2
def PS.growOp (p : PS) (n : Int) : Nat × PS := if amtB n && amtB (p.supply + n) then (0, p.grow n) else (2, p)
def PS.mintOp (p : PS) (o n : Int) : Nat × PS := if lookC o n ≠ 0 then (2, p) else if (p.growOp n).1 ≠ 0 then (2, p) else (0, (p.grow n).change o n)
def PS.burnOp (p : PS) (n : Int) : Nat × PS := if amtB n = false then (2, p) else if p.supply - p.sum < n then (6, p) else (0, p.grow (-n))
def PS.outOp (p : PS) (o n : Int) : Nat × PS := if lookC o n ≠ 0 then (2, p) else if p.at o < n then (6, p) else (0, p.change o (-n))
def PS.inOp (p : PS) (o n : Int) : Nat × PS := if lookC o n ≠ 0 then (2, p) else if p.supply - p.sum < n then (6, p) else (0, p.change o n)
def PS.moveOp (p : PS) (a b n : Int) : Nat × PS := if lookC b n ≠ 0 then (2, p) else if (p.outOp a n).1 ≠ 0 then p.outOp a n else (p.outOp a n).2.inOp b n

theorem lookC_zero {o n : Int} : lookC o n = 0 ↔ ownB o = true ∧ 0 ≤ n ∧ n ≤ 1125899906842624 := by
  unfold lookC; rw [← amtB_iff]; split <;> simp_all
theorem PS.growOp_ok {p : PS} (h : p.Ok) (n : Int) : (p.growOp n).2.Ok := by
  unfold PS.growOp; split
  · next hc =>
    simp only [Bool.and_eq_true, amtB_iff] at hc
    have := h.le
    exact h.grow (by omega) hc.2.2
  · exact h
theorem PS.mintOp_ok {p : PS} (h : p.Ok) (o n : Int) : (p.mintOp o n).2.Ok := by
  unfold PS.mintOp; split
  · exact h
  · next h1 =>
    split
    · exact h
    · next h2 =>
      obtain ⟨ho, hn, _⟩ := lookC_zero.1 (Decidable.not_not.1 h1)
      have hg : (p.growOp n).1 = 0 := Decidable.not_not.1 h2
      have hc : amtB n = true ∧ amtB (p.supply + n) = true := by unfold PS.growOp at hg; split at hg <;> simp_all
      rw [amtB_iff, amtB_iff] at hc
      have hl := h.le
      have hb := h.at_bd o
      exact (h.grow (by omega) hc.2.2).change ho (by show 0 ≤ p.at o + n; omega) (by show p.sum + n ≤ p.supply + n; omega)
theorem PS.burnOp_ok {p : PS} (h : p.Ok) (n : Int) : (p.burnOp n).2.Ok := by
  unfold PS.burnOp; split
  · exact h
  · next h1 =>
    split
    · exact h
    · next h2 =>
      have hn := amtB_iff.1 (by simpa using h1)
      have := h.most
      exact h.grow (by omega) (by omega)
theorem PS.outOp_ok {p : PS} (h : p.Ok) (o n : Int) : (p.outOp o n).2.Ok := by
  unfold PS.outOp; split
  · exact h
  · next h1 =>
    split
    · exact h
    · next h2 =>
      obtain ⟨ho, hn, _⟩ := lookC_zero.1 (Decidable.not_not.1 h1)
      have := h.le
      exact h.change ho (by omega) (by omega)
theorem PS.inOp_ok {p : PS} (h : p.Ok) (o n : Int) : (p.inOp o n).2.Ok := by
  unfold PS.inOp; split
  · exact h
  · next h1 =>
    split
    · exact h
    · next h2 =>
      obtain ⟨ho, hn, _⟩ := lookC_zero.1 (Decidable.not_not.1 h1)
      have hb := h.at_bd o
      exact h.change ho (by omega) (by omega)
theorem PS.moveOp_ok {p : PS} (h : p.Ok) (a b n : Int) : (p.moveOp a b n).2.Ok := by
  unfold PS.moveOp; split
  · exact h
  · split
    · exact PS.outOp_ok h a n
    · exact PS.inOp_ok (PS.outOp_ok h a n) b n
end Go.Proofs.YtajnfkmkombajabGreatDoor
namespace Go.Proofs.YtajnfkmkombajabGreatDoor
open Go.RowKit

structure QS where
  total : Int
  all : Int
  sh : List Int

def QS.at (p : QS) (o : Int) : Int := if ownB o then p.sh.getD o.toNat 0 else 0
def QS.value (p : QS) (o : Int) : Int := if p.all = 0 then 0 else overN (p.at o) p.total p.all
def QS.new : QS := ⟨0, 0, [0, 0, 0, 0, 0, 0]⟩
/-- owner o has s shares more (or less), the pool n -/
def QS.change (p : QS) (o s n : Int) : QS := ⟨p.total + n, p.all + s, p.sh.set o.toNat (p.at o + s)⟩

structure QS.Ok (p : QS) : Prop where
  six : p.sh.length = 6
  pos : ∀ x ∈ p.sh, 0 ≤ x
  sumIs : p.sh.sum = p.all
  t0 : 0 ≤ p.total
  t1 : p.total ≤ 1125899906842624
  a1 : p.all ≤ 1125899906842624
  nil : p.all = 0 → p.total = 0

theorem QS.new_ok : QS.new.Ok := ⟨rfl, by simp [QS.new], rfl, by simp [QS.new], by simp [QS.new], by simp [QS.new], fun _ => rfl⟩

theorem QS.Ok.at_bd {p : QS} (h : p.Ok) (o : Int) : 0 ≤ p.at o ∧ p.at o ≤ p.all := by
  have := sum_le_of_nonneg h.pos o.toNat; rw [h.sumIs] at this
  unfold QS.at; split <;> omega
theorem QS.Ok.all0 {p : QS} (h : p.Ok) : 0 ≤ p.all := by have := h.at_bd 0; omega

theorem amt_of {n : Int} (h0 : 0 ≤ n) (h1 : n ≤ 1125899906842624) : amtB n = true := amtB_iff.2 ⟨h0, h1⟩

/-- a part of the pool's total is at most the total, and can be told -/
theorem QS.Ok.overOk {p : QS} (h : p.Ok) (h0 : p.all ≠ 0) (o : Int) : overOk (p.at o) p.total p.all := by
  have hb := h.at_bd o
  have ha := h.all0
  have h1 := h.a1
  have ht := h.t0
  have ht1 := h.t1
  refine ⟨by omega, by omega, by omega, ?_⟩
  have : p.at o * p.total / p.all ≤ p.total := by
    refine Int.ediv_le_of_le_mul (by omega) ?_
    rw [Int.mul_comm p.total]
    exact Int.mul_le_mul_of_nonneg_right hb.2 ht
  omega
theorem QS.Ok.value_eq {p : QS} (h : p.Ok) (h0 : p.all ≠ 0) (o : Int) : p.value o = p.at o * p.total / p.all := by
  unfold QS.value; rw [if_neg h0]; exact (over_yes (h.overOk h0 o)).2.1
theorem QS.Ok.value_nil {p : QS} (h0 : p.all = 0) (o : Int) : p.value o = 0 := by unfold QS.value; rw [if_pos h0]
theorem QS.Ok.value_bd {p : QS} (h : p.Ok) (o : Int) : 0 ≤ p.value o ∧ p.value o ≤ p.total := by
  by_cases h0 : p.all = 0
  · rw [QS.Ok.value_nil h0]; exact ⟨Int.le_refl _, h.t0⟩
  · have hb := h.at_bd o
    have ha := h.all0
    have ht := h.t0
    rw [h.value_eq h0]
    refine ⟨Int.ediv_nonneg (Int.mul_nonneg hb.1 ht) ha, Int.ediv_le_of_le_mul (by omega) ?_⟩
    rw [Int.mul_comm p.total]
    exact Int.mul_le_mul_of_nonneg_right hb.2 ht

theorem QS.at_own {p : QS} {o : Int} (ho : ownB o = true) : p.at o = p.sh.getD o.toNat 0 := if_pos ho

theorem QS.Ok.change {p : QS} (h : p.Ok) {o s n : Int} (ho : ownB o = true) (h1 : 0 ≤ p.at o + s) (h2 : p.all + s ≤ 1125899906842624) (h3 : 0 ≤ p.total + n) (h4 : p.total + n ≤ 1125899906842624) (h5 : p.all + s = 0 → p.total + n = 0) : (p.change o s n).Ok := by
  have ho' := ownB_iff.1 ho
  refine ⟨by simp [QS.change, h.six], fun x hx => ?_, ?_, h3, h4, h2, h5⟩
  · rcases List.mem_or_eq_of_mem_set hx with hx | hx
    · exact h.pos x hx
    · rw [hx]; exact h1
  · simp only [QS.change]
    rw [sum_set _ _ _ (by rw [h.six]; omega), h.sumIs, ← QS.at_own ho]
    omega
theorem QS.at_change {p : QS} (h : p.Ok) {o s n : Int} (ho : ownB o = true) (k : Int) : (p.change o s n).at k = if k = o then p.at o + s else p.at k := by
  have ho' := ownB_iff.1 ho
  by_cases hk : k = o
  · subst hk
    rw [if_pos rfl, QS.at_own ho]
    simp only [QS.change, List.getD_eq_getElem?_getD, List.getElem?_set]
    rw [if_pos trivial, if_pos (by rw [h.six]; omega)]; rfl
  · rw [if_neg hk]
    unfold QS.at
    split
    · next hkb =>
      have := ownB_iff.1 hkb
      simp only [QS.change, List.getD_eq_getElem?_getD, List.getElem?_set]
      rw [if_neg (by omega)]
    · rfl

/-- is it an owner, and an amount of at least one? -/
def plookC (o n : Int) : Nat := if ownB o && (decide (1 ≤ n) && decide (n ≤ 1125899906842624)) then 0 else 2
theorem plookC_zero {o n : Int} : plookC o n = 0 ↔ ownB o = true ∧ 1 ≤ n ∧ n ≤ 1125899906842624 := by
  unfold plookC; split <;> simp_all

/-- what each call answers (a number, an error's number) and leaves -/
def QS.joinS (p : QS) (n : Int) : Int := if 0 < p.all then overN n p.all p.total else n
def QS.joinC (p : QS) (n : Int) : Nat := if 0 < p.all then overC n p.all p.total else 0
def QS.joinOp (p : QS) (o n : Int) : Nat × QS :=
  if plookC o n ≠ 0 then (2, p) else if 0 < p.all ∧ p.total = 0 then (8, p) else if p.joinC n ≠ 0 then (2, p)
  else if ¬ (p.total + n ≤ 1125899906842624 ∧ p.all + p.joinS n ≤ 1125899906842624) then (2, p) else if p.joinS n = 0 then (7, p) else (0, p.change o (p.joinS n) n)
def QS.takeOp (p : QS) (o n : Int) : Nat × QS :=
  if plookC o n ≠ 0 then (2, p) else if p.value o < n then (6, p) else if upN n p.all p.total = p.all ∧ n < p.total then (6, p) else (0, p.change o (-upN n p.all p.total) (-n))
def QS.leaveOp (p : QS) (o : Int) : Int × Nat × QS :=
  if ownB o = false then (0, 2, p) else if p.at o = 0 then (0, 4, p) else (p.value o, 0, p.change o (-p.at o) (-p.value o))
def QS.addOp (p : QS) (n : Int) : Nat × QS :=
  if amtB n = false then (2, p) else if p.all = 0 then (4, p) else if 1125899906842624 < p.total + n then (2, p) else (0, ⟨p.total + n, p.all, p.sh⟩)
def QS.slashOp (p : QS) (c : Int) : Int × Nat × QS :=
  if c < 0 ∨ 100 < c then (0, 2, p) else (p.total * c / 100, 0, ⟨p.total - p.total * c / 100, p.all, p.sh⟩)

/-- joining: what a joiner gets of shares is no more than its part -/
theorem QS.Ok.joinS_bd {p : QS} (h : p.Ok) {n : Int} (hn : 1 ≤ n) (hc : p.joinC n = 0) (hg : ¬ (0 < p.all ∧ p.total = 0)) : 0 ≤ p.joinS n ∧ p.joinS n * p.total ≤ n * p.all := by
  have ha := h.all0
  unfold QS.joinS QS.joinC at *
  split
  · next h0 =>
    rw [if_pos h0] at hc
    have hO : Go.Proofs.YtajnfkmkombajabGreatDoor.overOk n p.all p.total := by
      apply Decidable.byContradiction
      intro hO; rw [(over_no hO).1] at hc; cases hc
    rw [(over_yes hO).2.1]
    have ht : 1 ≤ p.total := hO.2.2.1.1
    exact ⟨Int.ediv_nonneg (Int.mul_nonneg (by omega) ha) (by omega), Int.ediv_mul_le _ (by omega)⟩
  · next h0 =>
    have h00 : p.all = 0 := by omega
    rw [h00, h.nil h00]; simp; omega

theorem QS.joinOp_ok {p : QS} (h : p.Ok) (o n : Int) : (p.joinOp o n).2.Ok := by
  unfold QS.joinOp
  split
  · exact h
  · next h1 =>
    split
    · exact h
    · next h2 =>
      split
      · exact h
      · next h3 =>
        split
        · exact h
        · next h4 =>
          split
          · exact h
          · next h5 =>
            obtain ⟨ho, hn, _⟩ := plookC_zero.1 (Decidable.not_not.1 h1)
            have hb := h.joinS_bd hn (Decidable.not_not.1 h3) h2
            have hat := h.at_bd o
            have ha := h.all0
            have ht := h.t0
            exact h.change ho (by omega) (by omega) (by omega) (by omega) (by omega)

/-- what is taken wants no more shares than there are -/
theorem QS.Ok.take_bd {p : QS} (h : p.Ok) {o n : Int} (hn : 1 ≤ n) (hv : n ≤ p.value o) : upC n p.all p.total = 0 ∧ 1 ≤ upN n p.all p.total ∧ upN n p.all p.total ≤ p.at o ∧ n * p.all ≤ upN n p.all p.total * p.total ∧ 1 ≤ p.total ∧ p.all ≠ 0 := by
  have ha := h.all0
  have ha1 := h.a1
  have ht1 := h.t1
  have hvb := h.value_bd o
  have hnT : n ≤ p.total := by omega
  have h0 : p.all ≠ 0 := by intro h0; rw [QS.Ok.value_nil h0] at hv; omega
  have hat := h.at_bd o
  have hT : 1 ≤ p.total := by omega
  rw [h.value_eq h0] at hv
  have hmul : n * p.all ≤ p.at o * p.total := by
    have := Int.mul_le_mul_of_nonneg_right hv ha
    exact Int.le_trans this (Int.ediv_mul_le _ h0)
  -- the quotient, rounded up
  have hdm := Int.emod_add_mul_ediv (n * p.all) p.total
  have hr0 := Int.emod_nonneg (n * p.all) (show p.total ≠ 0 by omega)
  have hr1 := Int.emod_lt_of_pos (n * p.all) (show 0 < p.total by omega)
  have hq0 : 0 ≤ n * p.all / p.total := Int.ediv_nonneg (Int.mul_nonneg (by omega) ha) (by omega)
  have hpos : 1 ≤ n * p.all := by have := Int.mul_le_mul hn (show (1 : Int) ≤ p.all by omega) (by omega) (by omega); simpa using this
  obtain ⟨q, hq⟩ : ∃ q, q = n * p.all / p.total := ⟨_, rfl⟩
  obtain ⟨r, hr⟩ : ∃ r, r = n * p.all % p.total := ⟨_, rfl⟩
  rw [← hq, ← hr] at hdm
  rw [← hr] at hr0 hr1
  rw [← hq] at hq0
  have hup : q + (if r = 0 then 0 else 1) ≤ p.at o := by
    split
    · next hz =>
      have : p.total * q ≤ p.at o * p.total := by omega
      rw [Int.mul_comm (p.at o)] at this
      have := Int.le_of_mul_le_mul_left this (show 0 < p.total by omega); omega
    · next hz =>
      have : p.total * q < p.total * p.at o := by rw [Int.mul_comm p.total (p.at o)]; omega
      have := Int.lt_of_mul_lt_mul_left this (show 0 ≤ p.total by omega); omega
  have hO : Go.Proofs.YtajnfkmkombajabGreatDoor.overOk n p.all p.total := ⟨⟨by omega, by omega⟩, ⟨by omega, by omega⟩, ⟨by omega, by omega⟩, by rw [← hq]; split at hup <;> omega⟩
  have hU : upOk n p.all p.total := ⟨hO, by rw [← hq, ← hr]; omega⟩
  obtain ⟨u1, u2⟩ := up_yes hU
  rw [← hq, ← hr] at u2
  rw [u2]
  refine ⟨u1, ?_, hup, ?_, hT, h0⟩
  · split
    · next hz =>
      have : 0 < p.total * q := by omega
      have : q ≠ 0 := by rintro rfl; simp at this
      omega
    · omega
  · split
    · next hz => rw [Int.add_zero, Int.mul_comm q]; omega
    · next hz => rw [Int.add_mul, Int.one_mul, Int.mul_comm q]; omega

theorem QS.takeOp_ok {p : QS} (h : p.Ok) (o n : Int) : (p.takeOp o n).2.Ok := by
  unfold QS.takeOp
  split
  · exact h
  · next h1 =>
    split
    · exact h
    · next h2 =>
      split
      · exact h
      · next h3 =>
        obtain ⟨ho, hn, _⟩ := plookC_zero.1 (Decidable.not_not.1 h1)
        obtain ⟨_, hs1, hs2, _, hT, _⟩ := h.take_bd (o := o) hn (by omega)
        have hat := h.at_bd o
        have ha := h.a1
        have ht := h.t1
        have hv := h.value_bd o
        exact h.change ho (by omega) (by omega) (by omega) (by omega) (by omega)

theorem QS.leaveOp_ok {p : QS} (h : p.Ok) (o : Int) : (p.leaveOp o).2.2.Ok := by
  unfold QS.leaveOp
  split
  · exact h
  · next h1 =>
    split
    · exact h
    · next h2 =>
      have hat := h.at_bd o
      have ha := h.a1
      have ht := h.t1
      have hv := h.value_bd o
      refine h.change (by simpa using h1) (by omega) (by omega) (by omega) (by omega) (fun h0 => ?_)
      have e : p.all = p.at o := by omega
      have h0' : p.all ≠ 0 := by omega
      rw [h.value_eq h0', e, Int.mul_ediv_cancel_left _ (by omega)]; omega

theorem QS.addOp_ok {p : QS} (h : p.Ok) (n : Int) : (p.addOp n).2.Ok := by
  unfold QS.addOp
  split
  · exact h
  · next h1 =>
    split
    · exact h
    · next h2 =>
      split
      · exact h
      · next h3 =>
        have hn := amtB_iff.1 (by simpa using h1)
        have := h.t0
        exact ⟨h.six, h.pos, h.sumIs, by simp only; omega, by simp only; omega, h.a1, fun h0 => absurd h0 h2⟩

theorem slash_bd {t c : Int} (h0 : 0 ≤ t) (h1 : 0 ≤ c) (h2 : c ≤ 100) : 0 ≤ t * c / 100 ∧ t * c / 100 ≤ t := by
  refine ⟨Int.ediv_nonneg (Int.mul_nonneg h0 h1) (by omega), ?_⟩
  have := Int.mul_le_mul_of_nonneg_left h2 h0
  omega
theorem QS.slashOp_ok {p : QS} (h : p.Ok) (c : Int) : (p.slashOp c).2.2.Ok := by
  unfold QS.slashOp
  split
  · exact h
  · next h1 =>
    have := slash_bd h.t0 (show 0 ≤ c by omega) (by omega)
    have := h.t1
    exact ⟨h.six, h.pos, h.sumIs, by simp only; omega, by simp only; omega, h.a1, fun h0 => by simp only at h0 ⊢; have := h.nil h0; omega⟩

/-! ### fairness -/

/-- where a share is worth no less, so is so many of them -/
theorem worth {x T A T' A' : Int} (hx : 0 ≤ x) (hA : 0 < A) (hA' : 0 < A') (hT' : 0 ≤ T') (h : T * A' ≤ T' * A) : x * T / A ≤ x * T' / A' := by
  rw [Int.le_ediv_iff_mul_le hA']
  have h1 : x * T / A * A ≤ x * T := Int.ediv_mul_le _ (by omega)
  have h2 : x * T / A * A' * A ≤ x * T' * A := by
    calc x * T / A * A' * A = x * T / A * A * A' := by rw [Int.mul_assoc, Int.mul_comm A' A, ← Int.mul_assoc]
      _ ≤ x * T * A' := Int.mul_le_mul_of_nonneg_right h1 (by omega)
      _ = x * (T * A') := Int.mul_assoc _ _ _
      _ ≤ x * (T' * A) := Int.mul_le_mul_of_nonneg_left h hx
      _ = x * T' * A := (Int.mul_assoc _ _ _).symm
  exact Int.le_of_mul_le_mul_right h2 hA

/-- values together are at most total -/
theorem sum_div_le (T A : Int) (hA : 0 < A) : ∀ l : List Int, (l.map fun x => x * T / A).sum * A ≤ l.sum * T
  | [] => by simp
  | a :: l => by
    have ih := sum_div_le T A hA l
    have h1 : a * T / A * A ≤ a * T := Int.ediv_mul_le _ (by omega)
    simp only [List.map_cons, List.sum_cons, Int.add_mul]; omega

theorem six_vals {p : QS} (h : p.Ok) : ∃ a b c d e f, p.sh = [a, b, c, d, e, f] := by
  have := h.six
  match hp : p.sh, this with
  | [a, b, c, d, e, f], _ => exact ⟨a, b, c, d, e, f, rfl⟩

theorem QS.Ok.values_le {p : QS} (h : p.Ok) : p.value 0 + p.value 1 + p.value 2 + p.value 3 + p.value 4 + p.value 5 ≤ p.total := by
  by_cases h0 : p.all = 0
  · simp only [QS.Ok.value_nil h0]; have := h.t0; omega
  · have ha := h.all0
    simp only [h.value_eq h0]
    obtain ⟨a, b, c, d, e, f, hp⟩ := six_vals h
    have hs := sum_div_le p.total p.all (by omega) p.sh
    rw [h.sumIs, Int.mul_comm p.all] at hs
    have := Int.le_of_mul_le_mul_right hs (by omega)
    have g0 : p.at 0 = a := by simp [QS.at, ownB, hp]
    have g1 : p.at 1 = b := by simp [QS.at, ownB, hp]
    have g2 : p.at 2 = c := by simp [QS.at, ownB, hp]
    have g3 : p.at 3 = d := by simp [QS.at, ownB, hp]
    have g4 : p.at 4 = e := by simp [QS.at, ownB, hp]
    have g5 : p.at 5 = f := by simp [QS.at, ownB, hp]
    rw [g0, g1, g2, g3, g4, g5]
    rw [hp] at this
    simp at this
    omega

/-- another one's value does not fall where owner o's shares and the total change so that a share is worth no less -/
theorem QS.Ok.other {p : QS} (h : p.Ok) {o s n : Int} (ho : ownB o = true) (hok : (p.change o s n).Ok) (hw : p.total * (p.all + s) ≤ (p.total + n) * p.all) {k : Int} (hk : k ≠ o) : p.value k ≤ (p.change o s n).value k := by
  have hv' := hok.value_bd k
  by_cases h0 : p.all = 0
  · rw [QS.Ok.value_nil h0]; exact hv'.1
  by_cases h0' : (p.change o s n).all = 0
  · -- then nobody else has shares
    have hat := (QS.at_change h (s := s) (n := n) ho k).symm
    rw [if_neg hk] at hat
    have hb := hok.at_bd k
    rw [h0'] at hb
    rw [h.value_eq h0, show p.at k = 0 by omega]
    simp; exact hv'.1
  · rw [h.value_eq h0, hok.value_eq h0', QS.at_change h ho k, if_neg hk]
    have ha := h.all0
    have ha' := hok.all0
    have hT' := hok.t0
    exact worth (h.at_bd k).1 (by omega) (by omega) hT' hw

/-- .. and one's own value is no more than it was, with what it brought -/
theorem QS.Ok.mine {p : QS} (h : p.Ok) {o s n : Int} (ho : ownB o = true) (hok : (p.change o s n).Ok) (hw : p.total * (p.all + s) ≤ (p.total + n) * p.all) : (p.change o s n).value o ≤ p.value o + n + 1 ∨ p.all = 0 := by
  by_cases h0 : p.all = 0
  · exact .inr h0
  refine .inl ?_
  have ha := h.all0
  have hat := h.at_bd o
  have hvb := h.value_bd o
  by_cases h0' : (p.change o s n).all = 0
  · rw [QS.Ok.value_nil h0']
    have h1 : p.all + s = 0 := h0'
    have h2 := hok.nil h0'
    have h3 : p.total + n = 0 := h2
    have hat' := hok.at_bd o
    rw [QS.at_change h ho o, if_pos rfl, h0'] at hat'
    have e : p.at o = p.all := by omega
    rw [h.value_eq h0, e, Int.mul_ediv_cancel_left _ h0]; omega
  · have ha' := hok.all0
    have hA' : 0 < p.all + s := by have : (p.change o s n).all = p.all + s := rfl; omega
    rw [h.value_eq h0, hok.value_eq h0', QS.at_change h ho o, if_pos rfl]
    show (p.at o + s) * (p.total + n) / (p.all + s) ≤ p.at o * p.total / p.all + n + 1
    -- what the others have is worth no less
    have hrest := worth (x := p.all - p.at o) (T := p.total) (A := p.all) (T' := p.total + n) (A' := p.all + s) (by omega) (by omega) hA' hok.t0 hw
    have e1 : (p.at o + s) * (p.total + n) = (p.all + s) * (p.total + n) - (p.all - p.at o) * (p.total + n) := by
      rw [← Int.sub_mul]; congr 1; omega
    have e2 : p.at o * p.total = p.all * p.total - (p.all - p.at o) * p.total := by
      rw [← Int.sub_mul]; congr 1; omega
    have hsplit : ∀ (A T X : Int), 0 < A → (A * T - X) / A ≤ T - X / A ∧ T - X / A - 1 ≤ (A * T - X) / A := by
      intro A T X hA
      have m1 := Int.emod_add_mul_ediv X A
      have m2 := Int.emod_nonneg X (show A ≠ 0 by omega)
      have m3 := Int.emod_lt_of_pos X hA
      constructor
      · refine Int.ediv_le_of_le_mul hA ?_
        rw [Int.sub_mul, Int.mul_comm T, Int.mul_comm (X / A)]; omega
      · rw [Int.le_ediv_iff_mul_le hA, Int.sub_mul, Int.sub_mul, Int.mul_comm T, Int.mul_comm (X / A), Int.one_mul]; omega
    rw [e1, e2]
    have s1 := (hsplit (p.all + s) (p.total + n) ((p.all - p.at o) * (p.total + n)) hA').1
    have s2 := (hsplit p.all p.total ((p.all - p.at o) * p.total) (by omega)).2
    omega
end Go.Proofs.YtajnfkmkombajabGreatDoor
namespace Go.Proofs.YtajnfkmkombajabGreatDoor
open Go.RowKit

/-- what one act on a pool leaves: c its error's number, o its owner, n its amount -/
structure Fair (q q' : QS) (c : Nat) (sl jn tk ad : Bool) (o n : Int) : Prop where
  same : c ≠ 0 → ∀ k, q'.value k = q.value k
  others : sl = false → ∀ k, ¬ (k = o ∧ ad = false) → q.value k ≤ q'.value k
  join : c = 0 → jn = true → q'.value o ≤ q.value o + n + 1
  take : c = 0 → tk = true → q'.value o ≤ q.value o - n + 1
  slash : sl = true → ∀ k, q'.value k ≤ q.value k
  bd : c = 0 → (jn = true ∨ tk = true) → 1 ≤ n ∧ n ≤ 1125899906842624

theorem Fair.stay (q : QS) {c : Nat} (hc : c ≠ 0) (sl jn tk ad : Bool) (o n : Int) : Fair q q c sl jn tk ad o n :=
  ⟨fun _ _ => rfl, fun _ _ _ => Int.le_refl _, fun h => absurd h hc, fun h => absurd h hc, fun _ _ => Int.le_refl _, fun h => absurd h hc⟩

theorem fair_change {q : QS} (h : q.Ok) {o s n : Int} (ho : ownB o = true) (hok : (q.change o s n).Ok) (hw : q.total * (q.all + s) ≤ (q.total + n) * q.all) {k : Int} (hk : k ≠ o) : q.value k ≤ (q.change o s n).value k := h.other ho hok hw hk

theorem fair_join {q : QS} (h : q.Ok) (o n : Int) : Fair q (q.joinOp o n).2 (q.joinOp o n).1 false true false false o n := by
  have hok := QS.joinOp_ok h o n
  unfold QS.joinOp at hok ⊢
  split at hok
  · next h1 => rw [if_pos h1]; exact Fair.stay q (by simp) ..
  · next h1 =>
    rw [if_neg h1]
    split at hok
    · next h2 => rw [if_pos h2]; exact Fair.stay q (by simp) ..
    · next h2 =>
      rw [if_neg h2]
      split at hok
      · next h3 => rw [if_pos h3]; exact Fair.stay q (by simp) ..
      · next h3 =>
        rw [if_neg h3]
        split at hok
        · next h4 => rw [if_pos h4]; exact Fair.stay q (by simp) ..
        · next h4 =>
          rw [if_neg h4]
          split at hok
          · next h5 => rw [if_pos h5]; exact Fair.stay q (by simp) ..
          · next h5 =>
            rw [if_neg h5]
            obtain ⟨ho, hn, hn2⟩ := plookC_zero.1 (Decidable.not_not.1 h1)
            have hb := h.joinS_bd hn (Decidable.not_not.1 h3) h2
            replace hok : (q.change o (q.joinS n) n).Ok := hok
            have hw : q.total * (q.all + q.joinS n) ≤ (q.total + n) * q.all := by
              rw [Int.mul_add, Int.add_mul]
              have e1 : q.total * q.joinS n = q.joinS n * q.total := Int.mul_comm _ _
              omega
            refine ⟨fun hc => absurd rfl hc, fun _ k hk => h.other ho hok hw (fun e => hk ⟨e, rfl⟩), fun _ _ => ?_, fun _ h => (by cases h), fun h => (by cases h), fun _ _ => ⟨hn, hn2⟩⟩
            rcases h.mine ho hok hw with hm | hm
            · exact hm
            · have hv := hok.value_bd o
              have ht := h.nil hm
              have h0 := (h.value_bd o).1
              have : (q.change o (q.joinS n) n).total = q.total + n := rfl
              show (q.change o (q.joinS n) n).value o ≤ _
              omega

theorem fair_take {q : QS} (h : q.Ok) (o n : Int) : Fair q (q.takeOp o n).2 (q.takeOp o n).1 false false true false o n := by
  have hok := QS.takeOp_ok h o n
  unfold QS.takeOp at hok ⊢
  split at hok
  · next h1 => rw [if_pos h1]; exact Fair.stay q (by simp) ..
  · next h1 =>
    rw [if_neg h1]
    split at hok
    · next h2 => rw [if_pos h2]; exact Fair.stay q (by simp) ..
    · next h2 =>
      rw [if_neg h2]
      split at hok
      · next h3 => rw [if_pos h3]; exact Fair.stay q (by simp) ..
      · next h3 =>
        rw [if_neg h3]
        obtain ⟨ho, hn, hn2⟩ := plookC_zero.1 (Decidable.not_not.1 h1)
        obtain ⟨_, hs1, hs2, hs3, hT, hA⟩ := h.take_bd (o := o) hn (by omega)
        replace hok : (q.change o (-upN n q.all q.total) (-n)).Ok := hok
        have hw : q.total * (q.all + -upN n q.all q.total) ≤ (q.total + -n) * q.all := by
          rw [Int.mul_add, Int.add_mul, Int.mul_neg, Int.neg_mul]
          have e1 : q.total * upN n q.all q.total = upN n q.all q.total * q.total := Int.mul_comm _ _
          omega
        refine ⟨fun hc => absurd rfl hc, fun _ k hk => h.other ho hok hw (fun e => hk ⟨e, rfl⟩), fun _ h => (by cases h), fun _ _ => ?_, fun h => (by cases h), fun _ _ => ⟨hn, hn2⟩⟩
        rcases h.mine ho hok hw with hm | hm
        · show (q.change o (-upN n q.all q.total) (-n)).value o ≤ _
          omega
        · exact absurd hm hA

theorem fair_leave {q : QS} (h : q.Ok) (o n : Int) : Fair q (q.leaveOp o).2.2 (q.leaveOp o).2.1 false false false false o n := by
  have hok := QS.leaveOp_ok h o
  unfold QS.leaveOp at hok ⊢
  split at hok
  · next h1 => rw [if_pos h1]; exact Fair.stay q (by simp) ..
  · next h1 =>
    rw [if_neg h1]
    split at hok
    · next h2 => rw [if_pos h2]; exact Fair.stay q (by simp) ..
    · next h2 =>
      rw [if_neg h2]
      have ho : ownB o = true := by simpa using h1
      have hat := h.at_bd o
      have hA : q.all ≠ 0 := by omega
      have hw : q.total * (q.all + -q.at o) ≤ (q.total + -q.value o) * q.all := by
        rw [Int.mul_add, Int.add_mul, Int.mul_neg, Int.neg_mul]
        have e1 : q.total * q.at o = q.at o * q.total := Int.mul_comm _ _
        have e2 : q.value o * q.all ≤ q.at o * q.total := by rw [h.value_eq hA]; exact Int.ediv_mul_le _ hA
        omega
      exact ⟨fun hc => absurd rfl hc, fun _ k hk => h.other ho hok hw (fun e => hk ⟨e, rfl⟩), fun _ h => (by cases h), fun _ h => (by cases h), fun h => (by cases h), fun _ h => (by rcases h with h | h <;> cases h)⟩

theorem value_same_shares {q : QS} (h : q.Ok) {t : Int} (hok : (QS.mk t q.all q.sh).Ok) (k : Int) : (q.total ≤ t → q.value k ≤ (QS.mk t q.all q.sh).value k) ∧ (t ≤ q.total → (QS.mk t q.all q.sh).value k ≤ q.value k) := by
  by_cases h0 : q.all = 0
  · rw [QS.Ok.value_nil h0, QS.Ok.value_nil (p := QS.mk t q.all q.sh) h0]; exact ⟨fun _ => Int.le_refl _, fun _ => Int.le_refl _⟩
  · have ha := h.all0
    have hb := h.at_bd k
    rw [h.value_eq h0, hok.value_eq (show (QS.mk t q.all q.sh).all ≠ 0 from h0)]
    have e : (QS.mk t q.all q.sh).at k = q.at k := rfl
    rw [e]
    show (q.total ≤ t → q.at k * q.total / q.all ≤ q.at k * t / q.all) ∧ (t ≤ q.total → q.at k * t / q.all ≤ q.at k * q.total / q.all)
    refine ⟨fun hle => ?_, fun hle => ?_⟩
    · exact Int.ediv_le_ediv (by omega) (Int.mul_le_mul_of_nonneg_left hle hb.1)
    · exact Int.ediv_le_ediv (by omega) (Int.mul_le_mul_of_nonneg_left hle hb.1)

theorem fair_add {q : QS} (h : q.Ok) (o n : Int) : Fair q (q.addOp n).2 (q.addOp n).1 false false false true o n := by
  have hok := QS.addOp_ok h n
  unfold QS.addOp at hok ⊢
  split at hok
  · next h1 => rw [if_pos h1]; exact Fair.stay q (by simp) ..
  · next h1 =>
    rw [if_neg h1]
    split at hok
    · next h2 => rw [if_pos h2]; exact Fair.stay q (by simp) ..
    · next h2 =>
      rw [if_neg h2]
      split at hok
      · next h3 => rw [if_pos h3]; exact Fair.stay q (by simp) ..
      · next h3 =>
        rw [if_neg h3]
        have hn := amtB_iff.1 (by simpa using h1)
        exact ⟨fun hc => absurd rfl hc, fun _ k _ => (value_same_shares h hok k).1 (by omega), fun _ h => (by cases h), fun _ h => (by cases h), fun h => (by cases h), fun _ h => (by rcases h with h | h <;> cases h)⟩

theorem fair_slash {q : QS} (h : q.Ok) (o n c : Int) (ad : Bool) : Fair q (q.slashOp c).2.2 (q.slashOp c).2.1 true false false ad o n := by
  have hok := QS.slashOp_ok h c
  unfold QS.slashOp at hok ⊢
  split at hok
  · next h1 => rw [if_pos h1]; exact Fair.stay q (by simp) ..
  · next h1 =>
    rw [if_neg h1]
    have hs := slash_bd h.t0 (show 0 ≤ c by omega) (by omega)
    exact ⟨fun hc => absurd rfl hc, fun h => (by cases h), fun _ h => (by cases h), fun _ h => (by cases h), fun _ k => (value_same_shares h hok k).2 (by omega), fun _ h => (by rcases h with h | h <;> cases h)⟩

/-- the first k values together -/
def QS.vsum (q : QS) : Nat → Int
  | 0 => 0
  | k + 1 => q.vsum k + q.value k
theorem QS.Ok.vsum_le {q : QS} (h : q.Ok) : q.vsum 6 ≤ q.total := by
  have := h.values_le
  simp only [QS.vsum]
  have e : ((0 : Nat) : Int) = 0 ∧ ((1 : Nat) : Int) = 1 ∧ ((2 : Nat) : Int) = 2 ∧ ((3 : Nat) : Int) = 3 ∧ ((4 : Nat) : Int) = 4 ∧ ((5 : Nat) : Int) = 5 := by simp
  rw [e.1, e.2.1, e.2.2.1, e.2.2.2.1, e.2.2.2.2.1, e.2.2.2.2.2]
  omega
theorem QS.Ok.vsum_bd {q : QS} (h : q.Ok) : ∀ k, 0 ≤ q.vsum k ∧ q.vsum k ≤ k * 1125899906842624
  | 0 => by simp [QS.vsum]
  | k + 1 => by
    have ih := QS.Ok.vsum_bd h k
    have hv := h.value_bd (k : Int)
    have ht := h.t1
    simp only [QS.vsum]
    have : ((k + 1 : Nat) : Int) * 1125899906842624 = k * 1125899906842624 + 1125899906842624 := by push_cast; rw [Int.add_mul]; simp
    omega

/-! ### who is alone in a pool -/

/-- owner o alone has all shares -/
structure QS.Alone (q : QS) (o : Int) : Prop where
  ok : q.Ok
  own : ownB o = true
  is : q.at o = q.all
  pos : 0 < q.all
theorem QS.Alone.value {q : QS} {o : Int} (h : q.Alone o) : q.value o = q.total := by
  have hp := h.pos
  rw [h.ok.value_eq (by omega), h.is, Int.mul_ediv_cancel_left _ (by omega)]

theorem alone_add {q : QS} {o : Int} (h : q.Alone o) (n : Int) : (q.addOp n).2.Alone o := by
  have hok := QS.addOp_ok h.ok n
  have e : (q.addOp n).2.all = q.all ∧ (q.addOp n).2.sh = q.sh := by unfold QS.addOp; repeat' split
                                                                     all_goals exact ⟨rfl, rfl⟩
  have e2 : (q.addOp n).2.at o = q.at o := by unfold QS.at; rw [e.2]
  exact ⟨hok, h.own, by rw [e2, e.1]; exact h.is, by rw [e.1]; exact h.pos⟩
theorem alone_slash {q : QS} {o : Int} (h : q.Alone o) (n : Int) : (q.slashOp n).2.2.Alone o := by
  have hok := QS.slashOp_ok h.ok n
  have e : (q.slashOp n).2.2.all = q.all ∧ (q.slashOp n).2.2.sh = q.sh := by unfold QS.slashOp; repeat' split
                                                                             all_goals exact ⟨rfl, rfl⟩
  have e2 : (q.slashOp n).2.2.at o = q.at o := by unfold QS.at; rw [e.2]
  exact ⟨hok, h.own, by rw [e2, e.1]; exact h.is, by rw [e.1]; exact h.pos⟩

/-- the first one who joins an empty pool is alone in it -/
theorem alone_first {o n : Int} (ho : ownB o = true) (h1 : 1 ≤ n) (h2 : n ≤ 1125899906842624) : (QS.new.joinOp o n).1 = 0 ∧ (QS.new.joinOp o n).2.Alone o ∧ (QS.new.joinOp o n).2.total = n := by
  have hok := QS.joinOp_ok QS.new_ok o n
  have e : QS.new.joinOp o n = (0, QS.new.change o n n) := by
    unfold QS.joinOp
    rw [if_neg (by rw [Decidable.not_not]; exact plookC_zero.2 ⟨ho, h1, h2⟩), if_neg (by simp [QS.new])]
    have ej : QS.new.joinS n = n := by unfold QS.joinS; rw [if_neg (by simp [QS.new])]
    have ec : QS.new.joinC n = 0 := by unfold QS.joinC; rw [if_neg (by simp [QS.new])]
    rw [if_neg (by rw [ec]; simp), ej, if_neg (by simp [QS.new]; omega), if_neg (by omega)]
  rw [e] at hok ⊢
  have h0 : QS.new.at o = 0 := by unfold QS.at QS.new; rw [if_pos ho]; obtain ⟨a, b⟩ := ownB_iff.1 ho; obtain ⟨k, rfl⟩ := Int.eq_ofNat_of_zero_le a; match k, b with | 0, _ => rfl | 1, _ => rfl | 2, _ => rfl | 3, _ => rfl | 4, _ => rfl | 5, _ => rfl
  refine ⟨rfl, ⟨hok, ho, ?_, ?_⟩, ?_⟩
  · show (QS.new.change o n n).at o = QS.new.all + n
    rw [QS.at_change QS.new_ok ho, if_pos rfl, h0]; rfl
  · show 0 < QS.new.all + n
    simp [QS.new]; omega
  · show QS.new.total + n = n
    simp [QS.new]

/-- one alone in the pool, another one joins: what holds then -/
structure TwoIn (q : QS) (o p : Int) (other : Int) (q1 : QS) : Prop where
  ok : q1.Ok
  zero : q1.at p ≠ 0
  keeps : q.value o ≤ q1.value o
  most : q1.value p ≤ other
  total : q1.total = q.total + other

theorem alone_join {q : QS} {o p : Int} (h : q.Alone o) (hp : ownB p = true) (hop : o ≠ p) (hz : q.at p = 0) (n : Int) (hc : (q.joinOp p n).1 = 0) : TwoIn q o p n (q.joinOp p n).2 := by
  have hok := QS.joinOp_ok h.ok p n
  have hf := fair_join h.ok p n
  have hk := hf.others rfl o (fun e => hop e.1)
  unfold QS.joinOp at hc hok hk ⊢
  split at hc
  · cases hc
  · next h1 =>
    rw [if_neg h1] at hok hk ⊢
    split at hc
    · cases hc
    · next h2 =>
      rw [if_neg h2] at hok hk ⊢
      split at hc
      · cases hc
      · next h3 =>
        rw [if_neg h3] at hok hk ⊢
        split at hc
        · cases hc
        · next h4 =>
          rw [if_neg h4] at hok hk ⊢
          split at hc
          · cases hc
          · next h5 =>
            rw [if_neg h5] at hok hk ⊢
            obtain ⟨_, hn, _⟩ := plookC_zero.1 (Decidable.not_not.1 h1)
            have hb := h.ok.joinS_bd hn (Decidable.not_not.1 h3) h2
            have hat : (q.change p (q.joinS n) n).at p = q.joinS n := by rw [QS.at_change h.ok hp, if_pos rfl, hz]; omega
            have hpos := h.pos
            have hA : (q.change p (q.joinS n) n).all = q.all + q.joinS n := rfl
            have hT : (q.change p (q.joinS n) n).total = q.total + n := rfl
            refine ⟨hok, by show (q.change p (q.joinS n) n).at p ≠ 0; rw [hat]; exact h5, hk, ?_, rfl⟩
            show (q.change p (q.joinS n) n).value p ≤ n
            rw [hok.value_eq (by rw [hA]; omega), hat, hA, hT]
            refine Int.ediv_le_of_le_mul (by omega) ?_
            rw [Int.mul_add, Int.mul_add]
            have : q.joinS n * n = n * q.joinS n := Int.mul_comm _ _
            omega

theorem two_le_sum {l : List Int} (h : ∀ x ∈ l, 0 ≤ x) {i j : Nat} (hij : i ≠ j) : l.getD i 0 + l.getD j 0 ≤ l.sum := by
  by_cases hi : i < l.length
  · have h1 : ∀ x ∈ l.set i 0, 0 ≤ x := fun x hx => by
      rcases List.mem_or_eq_of_mem_set hx with hx | hx
      · exact h x hx
      · omega
    have h2 := sum_le_of_nonneg h1 j
    rw [sum_set _ _ _ hi] at h2
    have e : (l.set i 0).getD j 0 = l.getD j 0 := by simp [List.getD_eq_getElem?_getD, hij]
    rw [e] at h2; omega
  · have e : l.getD i 0 = 0 := by simp [List.getD_eq_getElem?_getD, List.getElem?_eq_none (show l.length ≤ i by omega)]
    have := sum_le_of_nonneg h j
    omega

theorem alone_zero {q : QS} {o p : Int} (h : q.Alone o) (hp : ownB p = true) (hop : o ≠ p) : q.at p = 0 := by
  obtain ⟨o0, o1⟩ := ownB_iff.1 h.own
  obtain ⟨p0, p1⟩ := ownB_iff.1 hp
  have h1 := two_le_sum h.ok.pos (show o.toNat ≠ p.toNat by omega)
  rw [h.ok.sumIs, ← QS.at_own h.own, ← QS.at_own hp, h.is] at h1
  have := (h.ok.at_bd p).1
  omega

theorem joinOp_zero {q : QS} {o n : Int} (hc : (q.joinOp o n).1 = 0) : (q.joinOp o n).2 = q.change o (q.joinS n) n ∧ 0 ≠ q.joinS n := by
  unfold QS.joinOp at hc ⊢
  split at hc
  · cases hc
  · next h1 =>
    rw [if_neg h1]
    split at hc
    · cases hc
    · next h2 =>
      rw [if_neg h2]
      split at hc
      · cases hc
      · next h3 =>
        rw [if_neg h3]
        split at hc
        · cases hc
        · next h4 =>
          rw [if_neg h4]
          split at hc
          · cases hc
          · next h5 => rw [if_neg h5]; exact ⟨rfl, fun e => h5 e.symm⟩
theorem joinOp_stays {q : QS} {o n : Int} (hc : (q.joinOp o n).1 ≠ 0) : (q.joinOp o n).2 = q := by
  unfold QS.joinOp at hc ⊢
  repeat' split
  all_goals first | rfl | (exfalso; apply hc; simp_all)

/-- who joined beside one that was alone, and leaves at once -/
theorem alone_back {q : QS} {o p n : Int} (h : q.Alone o) (hp : ownB p = true) (hop : o ≠ p) (hc : (q.joinOp p n).1 = 0) :
    ∃ v q2, (q.joinOp p n).2.leaveOp p = (v, 0, q2) ∧ v ≤ n ∧ q2.total = q.total + n - v ∧ q.total ≤ q2.value o ∧ q2.Alone o := by
  have hz := alone_zero h hp hop
  have T := alone_join h hp hop hz n hc
  obtain ⟨e1, _⟩ := joinOp_zero hc
  obtain ⟨q1, hq1⟩ : ∃ q1, q1 = (q.joinOp p n).2 := ⟨_, rfl⟩
  rw [← hq1] at T e1 ⊢
  have hl : q1.leaveOp p = (q1.value p, 0, q1.change p (-q1.at p) (-q1.value p)) := by
    unfold QS.leaveOp; rw [if_neg (by rw [hp]; simp), if_neg T.zero]
  have hf := (fair_leave T.ok p n).others rfl o (fun e => hop e.1)
  have hok := QS.leaveOp_ok T.ok p
  rw [hl] at hf hok
  refine ⟨_, _, hl, T.most, ?_, ?_, hok, h.own, ?_, ?_⟩
  · show q1.total + -q1.value p = _
    rw [T.total]; omega
  · have := T.keeps; rw [h.value] at this
    exact Int.le_trans this hf
  · show (q1.change p (-q1.at p) (-q1.value p)).at o = q1.all + -q1.at p
    rw [QS.at_change T.ok hp, if_neg hop, e1, QS.at_change h.ok hp, if_neg hop, QS.at_change h.ok hp, if_pos rfl, hz, h.is]
    show q.all = q.all + q.joinS n + -(0 + q.joinS n)
    omega
  · show 0 < q1.all + -q1.at p
    rw [e1, QS.at_change h.ok hp, if_pos rfl, hz]
    have := h.pos
    show 0 < q.all + q.joinS n + -(0 + q.joinS n)
    omega

/-- who is alone leaves -/
theorem alone_end {q : QS} {o : Int} (h : q.Alone o) : ∃ q2, q.leaveOp o = (q.total, 0, q2) ∧ q2.total = 0 ∧ q2.all = 0 := by
  have hp := h.pos
  refine ⟨q.change o (-q.at o) (-q.value o), ?_, ?_, ?_⟩
  · unfold QS.leaveOp; rw [if_neg (by rw [h.own]; simp), if_neg (by rw [h.is]; omega), h.value]
  · show q.total + -q.value o = 0
    rw [h.value]; omega
  · show q.all + -q.at o = 0
    rw [h.is]; omega
end Go.Proofs.YtajnfkmkombajabGreatDoor
