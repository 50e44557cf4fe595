/- Pools as plain numbers: what each call of package pool answers and leaves. No program in sight. -/
import Derived.Test.YtajnfkmkombajacDoorPlPurse
set_option linter.unusedVariables false
set_option linter.unusedSimpArgs false
namespace Go.Proofs.YtajnfkmkombajacDoor
open Go.RowKit

structure QS where
  total : Int
  all : Int
  sh : List Int

def QS.at (p : QS) (o : Int) : Int := if ownB o then p.sh.getD o.toNat 0 else 0
def QS.value (p : QS) (o : Int) : Int := if p.all = 0 then 0 else overN (p.at o) p.total p.all
def QS.new : QS := ⟨0, 0, [0, 0, 0, 0, 0, 0]⟩
/-- owner o has s shares more (or less), the pool n -/
def QS.change (p : QS) (o s n : Int) : QS := ⟨p.total + n, p.all + s, p.sh.set o.toNat (p.at o + s)⟩

structure QS.Ok (p : QS) : Prop where
  six : p.sh.length = 6
  pos : ∀ x ∈ p.sh, 0 ≤ x
  sumIs : p.sh.sum = p.all
  t0 : 0 ≤ p.total
  t1 : p.total ≤ 1125899906842624
  a1 : p.all ≤ 1125899906842624
  nil : p.all = 0 → p.total = 0

theorem QS.new_ok : QS.new.Ok := ⟨rfl, by simp [QS.new], rfl, by simp [QS.new], by simp [QS.new], by simp [QS.new], fun _ => rfl⟩

theorem QS.Ok.at_bd {p : QS} (h : p.Ok) (o : Int) : 0 ≤ p.at o ∧ p.at o ≤ p.all := by
  have := sum_le_of_nonneg h.pos o.toNat; rw [h.sumIs] at this
  unfold QS.at; split <;> omega
theorem QS.Ok.all0 {p : QS} (h : p.Ok) : 0 ≤ p.all := by have := h.at_bd 0; omega

theorem amt_of {n : Int} (h0 : 0 ≤ n) (h1 : n ≤ 1125899906842624) : amtB n = true := amtB_iff.2 ⟨h0, h1⟩

/-- a part of the pool's total is at most the total, and can be told -/
theorem QS.Ok.overOk {p : QS} (h : p.Ok) (h0 : p.all ≠ 0) (o : Int) : overOk (p.at o) p.total p.all := by
  have hb := h.at_bd o
  have ha := h.all0
  have h1 := h.a1
  have ht := h.t0
  have ht1 := h.t1
  refine ⟨by omega, by omega, by omega, ?_⟩
  have : p.at o * p.total / p.all ≤ p.total := by
    refine Int.ediv_le_of_le_mul (by omega) ?_
    rw [Int.mul_comm p.total]
    exact Int.mul_le_mul_of_nonneg_right hb.2 ht
  omega
theorem QS.Ok.value_eq {p : QS} (h : p.Ok) (h0 : p.all ≠ 0) (o : Int) : p.value o = p.at o * p.total / p.all := by
  unfold QS.value; rw [if_neg h0]; exact (over_yes (h.overOk h0 o)).2.1
theorem QS.Ok.value_nil {p : QS} (h0 : p.all = 0) (o : Int) : p.value o = 0 := by unfold QS.value; rw [if_pos h0]
theorem QS.Ok.value_bd {p : QS} (h : p.Ok) (o : Int) : 0 ≤ p.value o ∧ p.value o ≤ p.total := by
  by_cases h0 : p.all = 0
  · rw [QS.Ok.value_nil h0]; exact ⟨Int.le_refl _, h.t0⟩
  · have hb := h.at_bd o
    have ha := h.all0
    have ht := h.t0
    rw [h.value_eq h0]
    refine ⟨Int.ediv_nonneg (Int.mul_nonneg hb.1 ht) ha, Int.ediv_le_of_le_mul (by omega) ?_⟩
    rw [Int.mul_comm p.total]
    exact Int.mul_le_mul_of_nonneg_right hb.2 ht

theorem QS.at_own {p : QS} {o : Int} (ho : ownB o = true) : p.at o = p.sh.getD o.toNat 0 := if_pos ho

theorem QS.Ok.change {p : QS} (h : p.Ok) {o s n : Int} (ho : ownB o = true) (h1 : 0 ≤ p.at o + s) (h2 : p.all + s ≤ 1125899906842624) (h3 : 0 ≤ p.total + n) (h4 : p.total + n ≤ 1125899906842624) (h5 : p.all + s = 0 → p.total + n = 0) : (p.change o s n).Ok := by
  have ho' := ownB_iff.1 ho
  refine ⟨by simp [QS.change, h.six], fun x hx => ?_, ?_, h3, h4, h2, h5⟩
  · rcases List.mem_or_eq_of_mem_set hx with hx | hx
    · exact h.pos x hx
    · rw [hx]; exact h1
  · simp only [QS.change]
    rw [sum_set _ _ _ (by rw [h.six]; omega), h.sumIs, ← QS.at_own ho]
    omega
theorem QS.at_change {p : QS} (h : p.Ok) {o s n : Int} (ho : ownB o = true) (k : Int) : (p.change o s n).at k = if k = o then p.at o + s else p.at k := by
  have ho' := ownB_iff.1 ho
  by_cases hk : k = o
  · subst hk
    rw [if_pos rfl, QS.at_own ho]
    simp only [QS.change, List.getD_eq_getElem?_getD, List.getElem?_set]
    rw [if_pos trivial, if_pos (by rw [h.six]; omega)]; rfl
  · rw [if_neg hk]
    unfold QS.at
    split
    · next hkb =>
      have := ownB_iff.1 hkb
      simp only [QS.change, List.getD_eq_getElem?_getD, List.getElem?_set]
      rw [if_neg (by omega)]
    · rfl

/-- is it an owner, and an amount of at least one? -/
def plookC (o n : Int) : Nat := if ownB o && (decide (1 ≤ n) && decide (n ≤ 1125899906842624)) then 0 else 2
theorem plookC_zero {o n : Int} : plookC o n = 0 ↔ ownB o = true ∧ 1 ≤ n ∧ n ≤ 1125899906842624 := by
  unfold plookC; split <;> simp_all

/-- what each call answers (a number, an error's number) and leaves -/
def QS.joinS (p : QS) (n : Int) : Int := if 0 < p.all then overN n p.all p.total else n
def QS.joinC (p : QS) (n : Int) : Nat := if 0 < p.all then overC n p.all p.total else 0
def QS.joinOp (p : QS) (o n : Int) : Nat × QS :=
  if plookC o n ≠ 0 then (2, p) else if 0 < p.all ∧ p.total = 0 then (8, p) else if p.joinC n ≠ 0 then (2, p)
  else if ¬ (p.total + n ≤ 1125899906842624 ∧ p.all + p.joinS n ≤ 1125899906842624) then (2, p) else if p.joinS n = 0 then (7, p) else (0, p.change o (p.joinS n) n)
def QS.takeOp (p : QS) (o n : Int) : Nat × QS :=
  if plookC o n ≠ 0 then (2, p) else if p.value o < n then (6, p) else if upN n p.all p.total = p.all ∧ n < p.total then (6, p) else (0, p.change o (-upN n p.all p.total) (-n))
def QS.leaveOp (p : QS) (o : Int) : Int × Nat × QS :=
  if ownB o = false then (0, 2, p) else if p.at o = 0 then (0, 4, p) else (p.value o, 0, p.change o (-p.at o) (-p.value o))
def QS.addOp (p : QS) (n : Int) : Nat × QS :=
  if amtB n = false then (2, p) else if p.all = 0 then (4, p) else if 1125899906842624 < p.total + n then (2, p) else (0, ⟨p.total + n, p.all, p.sh⟩)
def QS.slashOp (p : QS) (c : Int) : Int × Nat × QS :=
  if c < 0 ∨ 100 < c then (0, 2, p) else (p.total * c / 100, 0, ⟨p.total - p.total * c / 100, p.all, p.sh⟩)

/-- joining: what a joiner gets of shares is no more than its part -/
theorem QS.Ok.joinS_bd {p : QS} (h : p.Ok) {n : Int} (hn : 1 ≤ n) (hc : p.joinC n = 0) (hg : ¬ (0 < p.all ∧ p.total = 0)) : 0 ≤ p.joinS n ∧ p.joinS n * p.total ≤ n * p.all := by
  have ha := h.all0
  unfold QS.joinS QS.joinC at *
  split
  · next h0 =>
    rw [if_pos h0] at hc
    have hO : Go.Proofs.YtajnfkmkombajacDoor.overOk n p.all p.total := by
      apply Decidable.byContradiction
      intro hO; rw [(over_no hO).1] at hc; cases hc
    rw [(over_yes hO).2.1]
    have ht : 1 ≤ p.total := hO.2.2.1.1
    exact ⟨Int.ediv_nonneg (Int.mul_nonneg (by omega) ha) (by omega), Int.ediv_mul_le _ (by omega)⟩
  · next h0 =>
    have h00 : p.all = 0 := by omega
    rw [h00, h.nil h00]; simp; omega

theorem QS.joinOp_ok {p : QS} (h : p.Ok) (o n : Int) : (p.joinOp o n).2.Ok := by
  unfold QS.joinOp
  split
  · exact h
  · next h1 =>
    split
    · exact h
    · next h2 =>
      split
      · exact h
      · next h3 =>
        split
        · exact h
        · next h4 =>
          split
          · exact h
          · next h5 =>
            obtain ⟨ho, hn, _⟩ := plookC_zero.1 (Decidable.not_not.1 h1)
            have hb := h.joinS_bd hn (Decidable.not_not.1 h3) h2
            have hat := h.at_bd o
            have ha := h.all0
            have ht := h.t0
            exact h.change ho (by omega) (by omega) (by omega) (by omega) (by omega)

/-- what is taken wants no more shares than there are -/
theorem QS.Ok.take_bd {p : QS} (h : p.Ok) {o n : Int} (hn : 1 ≤ n) (hv : n ≤ p.value o) : upC n p.all p.total = 0 ∧ 1 ≤ upN n p.all p.total ∧ upN n p.all p.total ≤ p.at o ∧ n * p.all ≤ upN n p.all p.total * p.total ∧ 1 ≤ p.total ∧ p.all ≠ 0 := by
  have ha := h.all0
  have ha1 := h.a1
  have ht1 := h.t1
  have hvb := h.value_bd o
  have hnT : n ≤ p.total := by omega
  have h0 : p.all ≠ 0 := by intro h0; rw [QS.Ok.value_nil h0] at hv; omega
  have hat := h.at_bd o
  have hT : 1 ≤ p.total := by omega
  rw [h.value_eq h0] at hv
  have hmul : n * p.all ≤ p.at o * p.total := by
    have := Int.mul_le_mul_of_nonneg_right hv ha
    exact Int.le_trans this (Int.ediv_mul_le _ h0)
  -- the quotient, rounded up
  have hdm := Int.emod_add_mul_ediv (n * p.all) p.total
  have hr0 := Int.emod_nonneg (n * p.all) (show p.total ≠ 0 by omega)
  have hr1 := Int.emod_lt_of_pos (n * p.all) (show 0 < p.total by omega)
  have hq0 : 0 ≤ n * p.all / p.total := Int.ediv_nonneg (Int.mul_nonneg (by omega) ha) (by omega)
  have hpos : 1 ≤ n * p.all := by have := Int.mul_le_mul hn (show (1 : Int) ≤ p.all by omega) (by omega) (by omega); simpa using this
  obtain ⟨q, hq⟩ : ∃ q, q = n * p.all / p.total := ⟨_, rfl⟩
  obtain ⟨r, hr⟩ : ∃ r, r = n * p.all % p.total := ⟨_, rfl⟩
  rw [← hq, ← hr] at hdm
  rw [← hr] at hr0 hr1
  rw [← hq] at hq0
  have hup : q + (if r = 0 then 0 else 1) ≤ p.at o := by
    split
    · next hz =>
      have : p.total * q ≤ p.at o * p.total := by omega
      rw [Int.mul_comm (p.at o)] at this
      have := Int.le_of_mul_le_mul_left this (show 0 < p.total by omega); omega
    · next hz =>
      have : p.total * q < p.total * p.at o := by rw [Int.mul_comm p.total (p.at o)]; omega
      have := Int.lt_of_mul_lt_mul_left this (show 0 ≤ p.total by omega); omega
  have hO : Go.Proofs.YtajnfkmkombajacDoor.overOk n p.all p.total := ⟨⟨by omega, by omega⟩, ⟨by omega, by omega⟩, ⟨by omega, by omega⟩, by rw [← hq]; split at hup <;> omega⟩
  have hU : upOk n p.all p.total := ⟨hO, by rw [← hq, ← hr]; omega⟩
  obtain ⟨u1, u2⟩ := up_yes hU
  rw [← hq, ← hr] at u2
  rw [u2]
  refine ⟨u1, ?_, hup, ?_, hT, h0⟩
  · split
    · next hz =>
      have : 0 < p.total * q := by omega
      have : q ≠ 0 := by rintro rfl; simp at this
      omega
    · omega
  · split
    · next hz => rw [Int.add_zero, Int.mul_comm q]; omega
    · next hz => rw [Int.add_mul, Int.one_mul, Int.mul_comm q]; omega

theorem QS.takeOp_ok {p : QS} (h : p.Ok) (o n : Int) : (p.takeOp o n).2.Ok := by
  unfold QS.takeOp
  split
  · exact h
  · next h1 =>
    split
    · exact h
    · next h2 =>
      split
      · exact h
      · next h3 =>
        obtain ⟨ho, hn, _⟩ := plookC_zero.1 (Decidable.not_not.1 h1)
        obtain ⟨_, hs1, hs2, _, hT, _⟩ := h.take_bd (o := o) hn (by omega)
        have hat := h.at_bd o
        have ha := h.a1
        have ht := h.t1
        have hv := h.value_bd o
        exact h.change ho (by omega) (by omega) (by omega) (by omega) (by omega)

theorem QS.leaveOp_ok {p : QS} (h : p.Ok) (o : Int) : (p.leaveOp o).2.2.Ok := by
  unfold QS.leaveOp
  split
  · exact h
  · next h1 =>
    split
    · exact h
    · next h2 =>
      have hat := h.at_bd o
      have ha := h.a1
      have ht := h.t1
      have hv := h.value_bd o
      refine h.change (by simpa using h1) (by omega) (by omega) (by omega) (by omega) (fun h0 => ?_)
      have e : p.all = p.at o := by omega
      have h0' : p.all ≠ 0 := by omega
      rw [h.value_eq h0', e, Int.mul_ediv_cancel_left _ (by omega)]; omega

theorem QS.addOp_ok {p : QS} (h : p.Ok) (n : Int) : (p.addOp n).2.Ok := by
  unfold QS.addOp
  split
  · exact h
  · next h1 =>
    split
    · exact h
    · next h2 =>
      split
      · exact h
      · next h3 =>
        have hn := amtB_iff.1 (by simpa using h1)
        have := h.t0
        exact ⟨h.six, h.pos, h.sumIs, by simp only; omega, by simp only; omega, h.a1, fun h0 => absurd h0 h2⟩

theorem slash_bd {t c : Int} (h0 : 0 ≤ t) (h1 : 0 ≤ c) (h2 : c ≤ 100) : 0 ≤ t * c / 100 ∧ t * c / 100 ≤ t := by
  refine ⟨Int.ediv_nonneg (Int.mul_nonneg h0 h1) (by omega), ?_⟩
  have := Int.mul_le_mul_of_nonneg_left h2 h0
  omega
theorem QS.slashOp_ok {p : QS} (h : p.Ok) (c : Int) : (p.slashOp c).2.2.Ok := by
  unfold QS.slashOp
  split
  · exact h
  · next h1 =>
    have := slash_bd h.t0 (show 0 ≤ c by omega) (by omega)
    have := h.t1
    exact ⟨h.six, h.pos, h.sumIs, by simp only; omega, by simp only; omega, h.a1, fun h0 => by simp only at h0 ⊢; have := h.nil h0; omega⟩

/-! ### fairness -/

/-- where a share is worth no less, so is so many of them -/
theorem worth {x T A T' A' : Int} (hx : 0 ≤ x) (hA : 0 < A) (hA' : 0 < A') (hT' : 0 ≤ T') (h : T * A' ≤ T' * A) : x * T / A ≤ x * T' / A' := by
  rw [Int.le_ediv_iff_mul_le hA']
  have h1 : x * T / A * A ≤ x * T := Int.ediv_mul_le _ (by omega)
  have h2 : x * T / A * A' * A ≤ x * T' * A := by
    calc x * T / A * A' * A = x * T / A * A * A' := by rw [Int.mul_assoc, Int.mul_comm A' A, ← Int.mul_assoc]
      _ ≤ x * T * A' := Int.mul_le_mul_of_nonneg_right h1 (by omega)
      _ = x * (T * A') := Int.mul_assoc _ _ _
      _ ≤ x * (T' * A) := Int.mul_le_mul_of_nonneg_left h hx
      _ = x * T' * A := (Int.mul_assoc _ _ _).symm
  exact Int.le_of_mul_le_mul_right h2 hA

/-- values together are at most total -/
theorem sum_div_le (T A : Int) (hA : 0 < A) : ∀ l : List Int, (l.map fun x => x * T / A).sum * A ≤ l.sum * T
  | [] => by simp
  | a :: l => by
    have ih := sum_div_le T A hA l
    have h1 : a * T / A * A ≤ a * T := Int.ediv_mul_le _ (by omega)
    simp only [List.map_cons, List.sum_cons, Int.add_mul]; omega

theorem six_vals {p : QS} (h : p.Ok) : ∃ a b c d e f, p.sh = [a, b, c, d, e, f] := by
  have := h.six
  match hp : p.sh, this with
  | [a, b, c, d, e, f], _ => exact ⟨a, b, c, d, e, f, rfl⟩

theorem QS.Ok.values_le {p : QS} (h : p.Ok) : p.value 0 + p.value 1 + p.value 2 + p.value 3 + p.value 4 + p.value 5 ≤ p.total := by
  by_cases h0 : p.all = 0
  · simp only [QS.Ok.value_nil h0]; have := h.t0; omega
  · have ha := h.all0
    simp only [h.value_eq h0]
    obtain ⟨a, b, c, d, e, f, hp⟩ := six_vals h
    have hs := sum_div_le p.total p.all (by omega) p.sh
    rw [h.sumIs, Int.mul_comm p.all] at hs
    have := Int.le_of_mul_le_mul_right hs (by omega)
    have g0 : p.at 0 = a := by simp [QS.at, ownB, hp]
    have g1 : p.at 1 = b := by simp [QS.at, ownB, hp]
    have g2 : p.at 2 = c := by simp [QS.at, ownB, hp]
    have g3 : p.at 3 = d := by simp [QS.at, ownB, hp]
    have g4 : p.at 4 = e := by simp [QS.at, ownB, hp]
    have g5 : p.at 5 = f := by simp [QS.at, ownB, hp]
    rw [g0, g1, g2, g3, g4, g5]
    rw [hp] at this
    simp at this
    omega

/-- another one's value does not fall where owner o's shares and the total change so that a share is worth no less -/
theorem QS.Ok.other {p : QS} (h : p.Ok) {o s n : Int} (ho : ownB o = true) (hok : (p.change o s n).Ok) (hw : p.total * (p.all + s) ≤ (p.total + n) * p.all) {k : Int} (hk : k ≠ o) : p.value k ≤ (p.change o s n).value k := by
  have hv' := hok.value_bd k
  by_cases h0 : p.all = 0
  · rw [QS.Ok.value_nil h0]; exact hv'.1
  by_cases h0' : (p.change o s n).all = 0
  · -- then nobody else has shares
    have hat := (QS.at_change h (s := s) (n := n) ho k).symm
    rw [if_neg hk] at hat
    have hb := hok.at_bd k
    rw [h0'] at hb
    rw [h.value_eq h0, show p.at k = 0 by omega]
    simp; exact hv'.1
  · rw [h.value_eq h0, hok.value_eq h0', QS.at_change h ho k, if_neg hk]
    have ha := h.all0
    have ha' := hok.all0
    have hT' := hok.t0
    exact worth (h.at_bd k).1 (by omega) (by omega) hT' hw

/-- .. and one's own value is no more than it was, with what it brought -/
theorem QS.Ok.mine {p : QS} (h : p.Ok) {o s n : Int} (ho : ownB o = true) (hok : (p.change o s n).Ok) (hw : p.total * (p.all + s) ≤ (p.total + n) * p.all) : (p.change o s n).value o ≤ p.value o + n + 1 ∨ p.all = 0 := by
  by_cases h0 : p.all = 0
  · exact .inr h0
  refine .inl ?_
  have ha := h.all0
  have hat := h.at_bd o
  have hvb := h.value_bd o
  by_cases h0' : (p.change o s n).all = 0
  · rw [QS.Ok.value_nil h0']
    have h1 : p.all + s = 0 := h0'
    have h2 := hok.nil h0'
    have h3 : p.total + n = 0 := h2
    have hat' := hok.at_bd o
    rw [QS.at_change h ho o, if_pos rfl, h0'] at hat'
    have e : p.at o = p.all := by omega
    rw [h.value_eq h0, e, Int.mul_ediv_cancel_left _ h0]; omega
  · have ha' := hok.all0
    have hA' : 0 < p.all + s := by have : (p.change o s n).all = p.all + s := rfl; omega
    rw [h.value_eq h0, hok.value_eq h0', QS.at_change h ho o, if_pos rfl]
    show (p.at o + s) * (p.total + n) / (p.all + s) ≤ p.at o * p.total / p.all + n + 1
    -- what the others have is worth no less
    have hrest := worth (x := p.all - p.at o) (T := p.total) (A := p.all) (T' := p.total + n) (A' := p.all + s) (by omega) (by omega) hA' hok.t0 hw
    have e1 : (p.at o + s) * (p.total + n) = (p.all + s) * (p.total + n) - (p.all - p.at o) * (p.total + n) := by
      rw [← Int.sub_mul]; congr 1; omega
    have e2 : p.at o * p.total = p.all * p.total - (p.all - p.at o) * p.total := by
      rw [← Int.sub_mul]; congr 1; omega
    have hsplit : ∀ (A T X : Int), 0 < A → (A * T - X) / A ≤ T - X / A ∧ T - X / A - 1 ≤ (A * T - X) / A := by
      intro A T X hA
      have m1 := Int.emod_add_mul_ediv X A
      have m2 := Int.emod_nonneg X (show A ≠ 0 by omega)
      have m3 := Int.emod_lt_of_pos X hA
      constructor
      · refine Int.ediv_le_of_le_mul hA ?_
        rw [Int.sub_mul, Int.mul_comm T, Int.mul_comm (X / A)]; omega
      · rw [Int.le_ediv_iff_mul_le hA, Int.sub_mul, Int.sub_mul, Int.mul_comm T, Int.mul_comm (X / A), Int.one_mul]; omega
    rw [e1, e2]
    have s1 := (hsplit (p.all + s) (p.total + n) ((p.all - p.at o) * (p.total + n)) hA').1
    have s2 := (hsplit p.all p.total ((p.all - p.at o) * p.total) (by omega)).2
    omega
end Go.Proofs.YtajnfkmkombajacDoor
