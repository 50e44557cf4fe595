/-
  Purses as plain numbers: what each call of package purse answers and leaves. No program in sight.
  Pools as plain numbers: what each call of package pool answers and leaves. No program in sight.
  Fairness of each act on a pool, in plain numbers. No program in sight.
  Stakes as plain numbers: what each call of package stake answers and leaves. No program in sight.
-/
import Derived.Test.YtajnfkmkombajaaGreatDoorQSP02
set_option linter.unusedVariables false
set_option linter.unusedSimpArgs false
set_option linter.unusedVariables false
namespace Go.Proofs.YtajnfkmkombajaaGreatDoor
open Go.RowKit
structure PS where
 has : List Int
 sum : Int
 supply : Int
def PS.at (p : PS) (o : Int) : Int := p.has.getD o.toNat 0
def PS.cells (p : PS) : List Int := p.has ++ [p.sum, p.supply]
structure PS.Ok (p : PS) : Prop where
 six : p.has.length = 6
 pos : ∀ x ∈ p.has, 0 ≤ x
 sumIs : p.has.sum = p.sum
 le : p.sum ≤ p.supply
 most : p.supply ≤ 1125899906842624
def PS.new : PS := ⟨[0, 0, 0, 0, 0, 0], 0, 0⟩
theorem PS.new_ok : PS.new.Ok := ⟨rfl, by simp [PS.new], rfl, by simp [PS.new], by simp [PS.new]⟩
theorem sum_le_of_nonneg : ∀ {l : List Int}, (∀ x ∈ l, 0 ≤ x) → ∀ i, l.getD i 0 ≤ l.sum ∧ 0 ≤ l.sum ∧ 0 ≤ l.getD i 0
 | [], _, i => by simp
 | a :: l, h, i => by
   have ha := h a (by simp)
   have ih := fun j => sum_le_of_nonneg (l := l) (fun x hx => h x (by simp [hx])) j
   cases i with
   | zero => have := ih 0; simp; omega
   | succ i => have := ih i; simp at this ⊢; omega
theorem sum_set : ∀ (l : List Int) (i : Nat) (v : Int), i < l.length → (l.set i v).sum = l.sum - l.getD i 0 + v
 | [], i, v, h => by simp at h
 | a :: l, 0, v, h => by simp; omega
 | a :: l, i + 1, v, h => by
   have := sum_set l i v (by simpa using h)
   simp only [List.set_cons_succ, List.sum_cons, List.getD_cons_succ]; omega
def ownB (o : Int) : Bool := decide (0 ≤ o) && decide (o < 6)
theorem ownB_iff {o : Int} : ownB o = true ↔ 0 ≤ o ∧ o < 6 := by simp [ownB]
theorem ownB_false {o : Int} : ownB o = false ↔ ¬ (0 ≤ o ∧ o < 6) := by rw [← ownB_iff]; simp
def PS.change (p : PS) (o n : Int) : PS := ⟨p.has.set o.toNat (p.at o + n), p.sum + n, p.supply⟩
def PS.grow (p : PS) (n : Int) : PS := ⟨p.has, p.sum, p.supply + n⟩
theorem PS.Ok.at_bd {p : PS} (h : p.Ok) (o : Int) : 0 ≤ p.at o ∧ p.at o ≤ p.sum := by
 have := sum_le_of_nonneg h.pos o.toNat; rw [h.sumIs] at this; exact ⟨this.2.2, this.1⟩
theorem PS.Ok.sum_bd {p : PS} (h : p.Ok) : 0 ≤ p.sum := by have := sum_le_of_nonneg h.pos 0; rw [h.sumIs] at this; exact this.2.1
theorem PS.Ok.change {p : PS} (h : p.Ok) {o n : Int} (ho : ownB o = true) (h1 : 0 ≤ p.at o + n) (h2 : p.sum + n ≤ p.supply) : (p.change o n).Ok := by
 rw [ownB_iff] at ho
 refine ⟨by simp [PS.change, h.six], fun x hx => ?_, ?_, h2, h.most⟩
 · rcases List.mem_or_eq_of_mem_set hx with hx | hx
   · exact h.pos x hx
   · rw [hx]; exact h1
 · simp only [PS.change]
   rw [sum_set _ _ _ (by rw [h.six]; omega), h.sumIs]
   show p.sum - p.at o + (p.at o + n) = p.sum + n
   omega
theorem PS.Ok.grow {p : PS} (h : p.Ok) {n : Int} (h1 : p.sum ≤ p.supply + n) (h2 : p.supply + n ≤ 1125899906842624) : (p.grow n).Ok := ⟨h.six, h.pos, h.sumIs, h1, h2⟩
def lookC (o n : Int) : Nat := if ownB o && amtB n then 0 else 2
def PS.growOp (p : PS) (n : Int) : Nat × PS := if amtB n && amtB (p.supply + n) then (0, p.grow n) else (2, p)
def PS.mintOp (p : PS) (o n : Int) : Nat × PS := if lookC o n ≠ 0 then (2, p) else if (p.growOp n).1 ≠ 0 then (2, p) else (0, (p.grow n).change o n)
def PS.burnOp (p : PS) (n : Int) : Nat × PS := if amtB n = false then (2, p) else if p.supply - p.sum < n then (6, p) else (0, p.grow (-n))
def PS.outOp (p : PS) (o n : Int) : Nat × PS := if lookC o n ≠ 0 then (2, p) else if p.at o < n then (6, p) else (0, p.change o (-n))
def PS.inOp (p : PS) (o n : Int) : Nat × PS := if lookC o n ≠ 0 then (2, p) else if p.supply - p.sum < n then (6, p) else (0, p.change o n)
def PS.moveOp (p : PS) (a b n : Int) : Nat × PS := if lookC b n ≠ 0 then (2, p) else if (p.outOp a n).1 ≠ 0 then p.outOp a n else (p.outOp a n).2.inOp b n
theorem lookC_zero {o n : Int} : lookC o n = 0 ↔ ownB o = true ∧ 0 ≤ n ∧ n ≤ 1125899906842624 := by
 unfold lookC; rw [← amtB_iff]; split <;> simp_all
theorem PS.growOp_ok {p : PS} (h : p.Ok) (n : Int) : (p.growOp n).2.Ok := by
 unfold PS.growOp; split
 · next hc =>
   simp only [Bool.and_eq_true, amtB_iff] at hc
   have := h.le
   exact h.grow (by omega) hc.2.2
 · exact h
theorem PS.mintOp_ok {p : PS} (h : p.Ok) (o n : Int) : (p.mintOp o n).2.Ok := by
 unfold PS.mintOp; split
 · exact h
 · next h1 =>
   split
   · exact h
   · next h2 =>
     obtain ⟨ho, hn, _⟩ := lookC_zero.1 (Decidable.not_not.1 h1)
     have hg : (p.growOp n).1 = 0 := Decidable.not_not.1 h2
     have hc : amtB n = true ∧ amtB (p.supply + n) = true := by unfold PS.growOp at hg; split at hg <;> simp_all
     rw [amtB_iff, amtB_iff] at hc
     have hl := h.le
     have hb := h.at_bd o
     exact (h.grow (by omega) hc.2.2).change ho (by show 0 ≤ p.at o + n; omega) (by show p.sum + n ≤ p.supply + n; omega)
theorem PS.burnOp_ok {p : PS} (h : p.Ok) (n : Int) : (p.burnOp n).2.Ok := by
 unfold PS.burnOp; split
 · exact h
 · next h1 =>
   split
   · exact h
   · next h2 =>
     have hn := amtB_iff.1 (by simpa using h1)
     have := h.most
     exact h.grow (by omega) (by omega)
theorem PS.outOp_ok {p : PS} (h : p.Ok) (o n : Int) : (p.outOp o n).2.Ok := by
 unfold PS.outOp; split
 · exact h
 · next h1 =>
   split
   · exact h
   · next h2 =>
     obtain ⟨ho, hn, _⟩ := lookC_zero.1 (Decidable.not_not.1 h1)
     have := h.le
     exact h.change ho (by omega) (by omega)
theorem PS.inOp_ok {p : PS} (h : p.Ok) (o n : Int) : (p.inOp o n).2.Ok := by
 unfold PS.inOp; split
 · exact h
 · next h1 =>
   split
   · exact h
   · next h2 =>
     obtain ⟨ho, hn, _⟩ := lookC_zero.1 (Decidable.not_not.1 h1)
     have hb := h.at_bd o
     exact h.change ho (by omega) (by omega)
theorem PS.moveOp_ok {p : PS} (h : p.Ok) (a b n : Int) : (p.moveOp a b n).2.Ok := by
 unfold PS.moveOp; split
 · exact h
 · split
   · exact PS.outOp_ok h a n
   · exact PS.inOp_ok (PS.outOp_ok h a n) b n
end Go.Proofs.YtajnfkmkombajaaGreatDoor
namespace Go.Proofs.YtajnfkmkombajaaGreatDoor
open Go.RowKit
structure QS where
 total : Int
 all : Int
 sh : List Int
def QS.at (p : QS) (o : Int) : Int := if ownB o then p.sh.getD o.toNat 0 else 0
def QS.value (p : QS) (o : Int) : Int := if p.all = 0 then 0 else overN (p.at o) p.total p.all
def QS.new : QS := ⟨0, 0, [0, 0, 0, 0, 0, 0]⟩
def QS.change (p : QS) (o s n : Int) : QS := ⟨p.total + n, p.all + s, p.sh.set o.toNat (p.at o + s)⟩
structure QS.Ok (p : QS) : Prop where
 six : p.sh.length = 6
 pos : ∀ x ∈ p.sh, 0 ≤ x
 sumIs : p.sh.sum = p.all
 t0 : 0 ≤ p.total
 t1 : p.total ≤ 1125899906842624
 a1 : p.all ≤ 1125899906842624
 nil : p.all = 0 → p.total = 0
theorem QS.new_ok : QS.new.Ok := ⟨rfl, by simp [QS.new], rfl, by simp [QS.new], by simp [QS.new], by simp [QS.new], fun _ => rfl⟩
theorem QS.Ok.at_bd {p : QS} (h : p.Ok) (o : Int) : 0 ≤ p.at o ∧ p.at o ≤ p.all := by
 have := sum_le_of_nonneg h.pos o.toNat; rw [h.sumIs] at this
 unfold QS.at; split <;> omega
theorem QS.Ok.all0 {p : QS} (h : p.Ok) : 0 ≤ p.all := by have := h.at_bd 0; omega
theorem QS.Ok.overOk {p : QS} (h : p.Ok) (h0 : p.all ≠ 0) (o : Int) : overOk (p.at o) p.total p.all := by
 have hb := h.at_bd o
 have ha := h.all0
 have h1 := h.a1
 have ht := h.t0
 have ht1 := h.t1
 refine ⟨by omega, by omega, by omega, ?_⟩
 have : p.at o * p.total / p.all ≤ p.total := by
   refine Int.ediv_le_of_le_mul (by omega) ?_
   rw [Int.mul_comm p.total]
   exact Int.mul_le_mul_of_nonneg_right hb.2 ht
 omega
theorem QS.Ok.value_eq {p : QS} (h : p.Ok) (h0 : p.all ≠ 0) (o : Int) : p.value o = p.at o * p.total / p.all := by
 unfold QS.value; rw [if_neg h0]; exact (over_yes (h.overOk h0 o)).2.1
theorem QS.Ok.value_nil {p : QS} (h0 : p.all = 0) (o : Int) : p.value o = 0 := by unfold QS.value; rw [if_pos h0]
theorem QS.Ok.value_bd {p : QS} (h : p.Ok) (o : Int) : 0 ≤ p.value o ∧ p.value o ≤ p.total := by
 by_cases h0 : p.all = 0
 · rw [QS.Ok.value_nil h0]; exact ⟨Int.le_refl _, h.t0⟩
 · have hb := h.at_bd o
   have ha := h.all0
   have ht := h.t0
   rw [h.value_eq h0]
   refine ⟨Int.ediv_nonneg (Int.mul_nonneg hb.1 ht) ha, Int.ediv_le_of_le_mul (by omega) ?_⟩
   rw [Int.mul_comm p.total]
   exact Int.mul_le_mul_of_nonneg_right hb.2 ht
theorem QS.at_own {p : QS} {o : Int} (ho : ownB o = true) : p.at o = p.sh.getD o.toNat 0 := if_pos ho
theorem QS.Ok.change {p : QS} (h : p.Ok) {o s n : Int} (ho : ownB o = true) (h1 : 0 ≤ p.at o + s) (h2 : p.all + s ≤ 1125899906842624) (h3 : 0 ≤ p.total + n) (h4 : p.total + n ≤ 1125899906842624) (h5 : p.all + s = 0 → p.total + n = 0) : (p.change o s n).Ok := by
 have ho' := ownB_iff.1 ho
 refine ⟨by simp [QS.change, h.six], fun x hx => ?_, ?_, h3, h4, h2, h5⟩
 · rcases List.mem_or_eq_of_mem_set hx with hx | hx
   · exact h.pos x hx
   · rw [hx]; exact h1
 · simp only [QS.change]
   rw [sum_set _ _ _ (by rw [h.six]; omega), h.sumIs, ← QS.at_own ho]
   omega
theorem QS.at_change {p : QS} (h : p.Ok) {o s n : Int} (ho : ownB o = true) (k : Int) : (p.change o s n).at k = if k = o then p.at o + s else p.at k := by
 have ho' := ownB_iff.1 ho
 by_cases hk : k = o
 · subst hk
   rw [if_pos rfl, QS.at_own ho]
   simp only [QS.change, List.getD_eq_getElem?_getD, List.getElem?_set]
   rw [if_pos trivial, if_pos (by rw [h.six]; omega)]; rfl
 · rw [if_neg hk]
   unfold QS.at
   split
   · next hkb =>
     have := ownB_iff.1 hkb
     simp only [QS.change, List.getD_eq_getElem?_getD, List.getElem?_set]
     rw [if_neg (by omega)]
   · rfl
def plookC (o n : Int) : Nat := if ownB o && (decide (1 ≤ n) && decide (n ≤ 1125899906842624)) then 0 else 2
theorem plookC_zero {o n : Int} : plookC o n = 0 ↔ ownB o = true ∧ 1 ≤ n ∧ n ≤ 1125899906842624 := by
 unfold plookC; split <;> simp_all
def QS.joinS (p : QS) (n : Int) : Int := if 0 < p.all then overN n p.all p.total else n
def QS.joinC (p : QS) (n : Int) : Nat := if 0 < p.all then overC n p.all p.total else 0
def QS.joinOp (p : QS) (o n : Int) : Nat × QS :=
 if plookC o n ≠ 0 then (2, p) else if 0 < p.all ∧ p.total = 0 then (8, p) else if p.joinC n ≠ 0 then (2, p)
 else if ¬ (p.total + n ≤ 1125899906842624 ∧ p.all + p.joinS n ≤ 1125899906842624) then (2, p) else if p.joinS n = 0 then (7, p) else (0, p.change o (p.joinS n) n)
def QS.takeOp (p : QS) (o n : Int) : Nat × QS :=
 if plookC o n ≠ 0 then (2, p) else if p.value o < n then (6, p) else if upN n p.all p.total = p.all ∧ n < p.total then (6, p) else (0, p.change o (-upN n p.all p.total) (-n))
def QS.leaveOp (p : QS) (o : Int) : Int × Nat × QS :=
 if ownB o = false then (0, 2, p) else if p.at o = 0 then (0, 4, p) else (p.value o, 0, p.change o (-p.at o) (-p.value o))
def QS.addOp (p : QS) (n : Int) : Nat × QS :=
 if amtB n = false then (2, p) else if p.all = 0 then (4, p) else if 1125899906842624 < p.total + n then (2, p) else (0, ⟨p.total + n, p.all, p.sh⟩)
def QS.slashOp (p : QS) (c : Int) : Int × Nat × QS :=
 if c < 0 ∨ 100 < c then (0, 2, p) else (p.total * c / 100, 0, ⟨p.total - p.total * c / 100, p.all, p.sh⟩)
theorem QS.Ok.joinS_bd {p : QS} (h : p.Ok) {n : Int} (hn : 1 ≤ n) (hc : p.joinC n = 0) (hg : ¬ (0 < p.all ∧ p.total = 0)) : 0 ≤ p.joinS n ∧ p.joinS n * p.total ≤ n * p.all := by
 have ha := h.all0
 unfold QS.joinS QS.joinC at *
 split
 · next h0 =>
   rw [if_pos h0] at hc
   have hO : Go.Proofs.YtajnfkmkombajaaGreatDoor.overOk n p.all p.total := by
     apply Decidable.byContradiction
     intro hO; rw [(over_no hO).1] at hc; cases hc
   rw [(over_yes hO).2.1]
   have ht : 1 ≤ p.total := hO.2.2.1.1
   exact ⟨Int.ediv_nonneg (Int.mul_nonneg (by omega) ha) (by omega), Int.ediv_mul_le _ (by omega)⟩
 · next h0 =>
   have h00 : p.all = 0 := by omega
   rw [h00, h.nil h00]; simp; omega
theorem QS.joinOp_ok {p : QS} (h : p.Ok) (o n : Int) : (p.joinOp o n).2.Ok := by
 unfold QS.joinOp
 split
 · exact h
 · next h1 =>
   split
   · exact h
   · next h2 =>
     split
     · exact h
     · next h3 =>
       split
       · exact h
       · next h4 =>
         split
         · exact h
         · next h5 =>
           obtain ⟨ho, hn, _⟩ := plookC_zero.1 (Decidable.not_not.1 h1)
           have hb := h.joinS_bd hn (Decidable.not_not.1 h3) h2
           have hat := h.at_bd o
           have ha := h.all0
           have ht := h.t0
           exact h.change ho (by omega) (by omega) (by omega) (by omega) (by omega)
theorem QS.Ok.take_bd {p : QS} (h : p.Ok) {o n : Int} (hn : 1 ≤ n) (hv : n ≤ p.value o) : upC n p.all p.total = 0 ∧ 1 ≤ upN n p.all p.total ∧ upN n p.all p.total ≤ p.at o ∧ n * p.all ≤ upN n p.all p.total * p.total ∧ 1 ≤ p.total ∧ p.all ≠ 0 := by
 have ha := h.all0
 have ha1 := h.a1
 have ht1 := h.t1
 have hvb := h.value_bd o
 have hnT : n ≤ p.total := by omega
 have h0 : p.all ≠ 0 := by intro h0; rw [QS.Ok.value_nil h0] at hv; omega
 have hat := h.at_bd o
 have hT : 1 ≤ p.total := by omega
 rw [h.value_eq h0] at hv
 have hmul : n * p.all ≤ p.at o * p.total := by
   have := Int.mul_le_mul_of_nonneg_right hv ha
   exact Int.le_trans this (Int.ediv_mul_le _ h0)
 -- the quotient, rounded up
 have hdm := Int.emod_add_mul_ediv (n * p.all) p.total
 have hr0 := Int.emod_nonneg (n * p.all) (show p.total ≠ 0 by omega)
 have hr1 := Int.emod_lt_of_pos (n * p.all) (show 0 < p.total by omega)
 have hq0 : 0 ≤ n * p.all / p.total := Int.ediv_nonneg (Int.mul_nonneg (by omega) ha) (by omega)
 have hpos : 1 ≤ n * p.all := by have := Int.mul_le_mul hn (show (1 : Int) ≤ p.all by omega) (by omega) (by omega); simpa using this
 obtain ⟨q, hq⟩ : ∃ q, q = n * p.all / p.total := ⟨_, rfl⟩
 obtain ⟨r, hr⟩ : ∃ r, r = n * p.all % p.total := ⟨_, rfl⟩
 rw [← hq, ← hr] at hdm
 rw [← hr] at hr0 hr1
 rw [← hq] at hq0
 have hup : q + (if r = 0 then 0 else 1) ≤ p.at o := by
   split
   · next hz =>
     have : p.total * q ≤ p.at o * p.total := by omega
     rw [Int.mul_comm (p.at o)] at this
     have := Int.le_of_mul_le_mul_left this (show 0 < p.total by omega); omega
   · next hz =>
     have : p.total * q < p.total * p.at o := by rw [Int.mul_comm p.total (p.at o)]; omega
     have := Int.lt_of_mul_lt_mul_left this (show 0 ≤ p.total by omega); omega
 have hO : Go.Proofs.YtajnfkmkombajaaGreatDoor.overOk n p.all p.total := ⟨⟨by omega, by omega⟩, ⟨by omega, by omega⟩, ⟨by omega, by omega⟩, by rw [← hq]; split at hup <;> omega⟩
 have hU : upOk n p.all p.total := ⟨hO, by rw [← hq, ← hr]; omega⟩
 obtain ⟨u1, u2⟩ := up_yes hU
 rw [← hq, ← hr] at u2
 rw [u2]
 refine ⟨u1, ?_, hup, ?_, hT, h0⟩
 · split
   · next hz =>
     have : 0 < p.total * q := by omega
     have : q ≠ 0 := by rintro rfl; simp at this
     omega
   · omega
 · split
   · next hz => rw [Int.add_zero, Int.mul_comm q]; omega
   · next hz => rw [Int.add_mul, Int.one_mul, Int.mul_comm q]; omega
theorem QS.takeOp_ok {p : QS} (h : p.Ok) (o n : Int) : (p.takeOp o n).2.Ok := by
 unfold QS.takeOp
 split
 · exact h
 · next h1 =>
   split
   · exact h
   · next h2 =>
     split
     · exact h
     · next h3 =>
       obtain ⟨ho, hn, _⟩ := plookC_zero.1 (Decidable.not_not.1 h1)
       obtain ⟨_, hs1, hs2, _, hT, _⟩ := h.take_bd (o := o) hn (by omega)
       have hat := h.at_bd o
       have ha := h.a1
       have ht := h.t1
       have hv := h.value_bd o
       exact h.change ho (by omega) (by omega) (by omega) (by omega) (by omega)
theorem QS.leaveOp_ok {p : QS} (h : p.Ok) (o : Int) : (p.leaveOp o).2.2.Ok := by
 unfold QS.leaveOp
 split
 · exact h
 · next h1 =>
   split
   · exact h
   · next h2 =>
     have hat := h.at_bd o
     have ha := h.a1
     have ht := h.t1
     have hv := h.value_bd o
     refine h.change (by simpa using h1) (by omega) (by omega) (by omega) (by omega) (fun h0 => ?_)
     have e : p.all = p.at o := by omega
     have h0' : p.all ≠ 0 := by omega
     rw [h.value_eq h0', e, Int.mul_ediv_cancel_left _ (by omega)]; omega
theorem QS.addOp_ok {p : QS} (h : p.Ok) (n : Int) : (p.addOp n).2.Ok := by
 unfold QS.addOp
 split
 · exact h
 · next h1 =>
   split
   · exact h
   · next h2 =>
     split
     · exact h
     · next h3 =>
       have hn := amtB_iff.1 (by simpa using h1)
       have := h.t0
       exact ⟨h.six, h.pos, h.sumIs, by simp only; omega, by simp only; omega, h.a1, fun h0 => absurd h0 h2⟩
theorem slash_bd {t c : Int} (h0 : 0 ≤ t) (h1 : 0 ≤ c) (h2 : c ≤ 100) : 0 ≤ t * c / 100 ∧ t * c / 100 ≤ t := by
 refine ⟨Int.ediv_nonneg (Int.mul_nonneg h0 h1) (by omega), ?_⟩
 have := Int.mul_le_mul_of_nonneg_left h2 h0
 omega
theorem QS.slashOp_ok {p : QS} (h : p.Ok) (c : Int) : (p.slashOp c).2.2.Ok := by
 unfold QS.slashOp
 split
 · exact h
 · next h1 =>
   have := slash_bd h.t0 (show 0 ≤ c by omega) (by omega)
   have := h.t1
   exact ⟨h.six, h.pos, h.sumIs, by simp only; omega, by simp only; omega, h.a1, fun h0 => by simp only at h0 ⊢; have := h.nil h0; omega⟩
/-! ### fairness -/
theorem worth {x T A T' A' : Int} (hx : 0 ≤ x) (hA : 0 < A) (hA' : 0 < A') (hT' : 0 ≤ T') (h : T * A' ≤ T' * A) : x * T / A ≤ x * T' / A' := by
 rw [Int.le_ediv_iff_mul_le hA']
 have h1 : x * T / A * A ≤ x * T := Int.ediv_mul_le _ (by omega)
 have h2 : x * T / A * A' * A ≤ x * T' * A := by
   calc x * T / A * A' * A = x * T / A * A * A' := by rw [Int.mul_assoc, Int.mul_comm A' A, ← Int.mul_assoc]
     _ ≤ x * T * A' := Int.mul_le_mul_of_nonneg_right h1 (by omega)
     _ = x * (T * A') := Int.mul_assoc _ _ _
     _ ≤ x * (T' * A) := Int.mul_le_mul_of_nonneg_left h hx
     _ = x * T' * A := (Int.mul_assoc _ _ _).symm
 exact Int.le_of_mul_le_mul_right h2 hA
theorem QS.Ok.other {p : QS} (h : p.Ok) {o s n : Int} (ho : ownB o = true) (hok : (p.change o s n).Ok) (hw : p.total * (p.all + s) ≤ (p.total + n) * p.all) {k : Int} (hk : k ≠ o) : p.value k ≤ (p.change o s n).value k := by
 have hv' := hok.value_bd k
 by_cases h0 : p.all = 0
 · rw [QS.Ok.value_nil h0]; exact hv'.1
 by_cases h0' : (p.change o s n).all = 0
 · -- then nobody else has shares
   have hat := (QS.at_change h (s := s) (n := n) ho k).symm
   rw [if_neg hk] at hat
   have hb := hok.at_bd k
   rw [h0'] at hb
   rw [h.value_eq h0, show p.at k = 0 by omega]
   simp; exact hv'.1
 · rw [h.value_eq h0, hok.value_eq h0', QS.at_change h ho k, if_neg hk]
   have ha := h.all0
   have ha' := hok.all0
   have hT' := hok.t0
   exact worth (h.at_bd k).1 (by omega) (by omega) hT' hw
theorem QS.Ok.mine {p : QS} (h : p.Ok) {o s n : Int} (ho : ownB o = true) (hok : (p.change o s n).Ok) (hw : p.total * (p.all + s) ≤ (p.total + n) * p.all) : (p.change o s n).value o ≤ p.value o + n + 1 ∨ p.all = 0 := by
 by_cases h0 : p.all = 0
 · exact .inr h0
 refine .inl ?_
 have ha := h.all0
 have hat := h.at_bd o
 have hvb := h.value_bd o
 by_cases h0' : (p.change o s n).all = 0
 · rw [QS.Ok.value_nil h0']
   have h1 : p.all + s = 0 := h0'
   have h2 := hok.nil h0'
   have h3 : p.total + n = 0 := h2
   have hat' := hok.at_bd o
   rw [QS.at_change h ho o, if_pos rfl, h0'] at hat'
   have e : p.at o = p.all := by omega
   rw [h.value_eq h0, e, Int.mul_ediv_cancel_left _ h0]; omega
 · have ha' := hok.all0
   have hA' : 0 < p.all + s := by have : (p.change o s n).all = p.all + s := rfl; omega
   rw [h.value_eq h0, hok.value_eq h0', QS.at_change h ho o, if_pos rfl]
   show (p.at o + s) * (p.total + n) / (p.all + s) ≤ p.at o * p.total / p.all + n + 1
   -- what the others have is worth no less
   have hrest := worth (x := p.all - p.at o) (T := p.total) (A := p.all) (T' := p.total + n) (A' := p.all + s) (by omega) (by omega) hA' hok.t0 hw
   have e1 : (p.at o + s) * (p.total + n) = (p.all + s) * (p.total + n) - (p.all - p.at o) * (p.total + n) := by
     rw [← Int.sub_mul]; congr 1; omega
   have e2 : p.at o * p.total = p.all * p.total - (p.all - p.at o) * p.total := by
     rw [← Int.sub_mul]; congr 1; omega
   have hsplit : ∀ (A T X : Int), 0 < A → (A * T - X) / A ≤ T - X / A ∧ T - X / A - 1 ≤ (A * T - X) / A := by
     intro A T X hA
     have m1 := Int.emod_add_mul_ediv X A
     have m2 := Int.emod_nonneg X (show A ≠ 0 by omega)
     have m3 := Int.emod_lt_of_pos X hA
     constructor
     · refine Int.ediv_le_of_le_mul hA ?_
       rw [Int.sub_mul, Int.mul_comm T, Int.mul_comm (X / A)]; omega
     · rw [Int.le_ediv_iff_mul_le hA, Int.sub_mul, Int.sub_mul, Int.mul_comm T, Int.mul_comm (X / A), Int.one_mul]; omega
   rw [e1, e2]
   have s1 := (hsplit (p.all + s) (p.total + n) ((p.all - p.at o) * (p.total + n)) hA').1
   have s2 := (hsplit p.all p.total ((p.all - p.at o) * p.total) (by omega)).2
   omega
end Go.Proofs.YtajnfkmkombajaaGreatDoor
namespace Go.Proofs.YtajnfkmkombajaaGreatDoor
open Go.RowKit
/-! ### who is alone in a pool -/
structure QS.Alone (q : QS) (o : Int) : Prop where
 ok : q.Ok
 own : ownB o = true
 is : q.at o = q.all
 pos : 0 < q.all
theorem QS.Alone.value {q : QS} {o : Int} (h : q.Alone o) : q.value o = q.total := by
 have hp := h.pos
 rw [h.ok.value_eq (by omega), h.is, Int.mul_ediv_cancel_left _ (by omega)]
end Go.Proofs.YtajnfkmkombajaaGreatDoor
namespace Go.Proofs.YtajnfkmkombajaaGreatDoor
open Go.RowKit
structure WP where
 b : Int
 c : Int
 q : QS
structure SS where
 P : List (Option QS)
 W : List WP
def SS.new : SS := ⟨[none, none, none], []⟩
def SS.pool (s : SS) (k : Int) : Option QS := if 0 ≤ k then s.P.getD k.toNat none else none
def SS.is (s : SS) (k : Int) : Bool := (s.pool k).isSome
def WP.at (x : WP) (k c : Int) : Bool := x.b == k && x.c == c
def SS.find (s : SS) (k c : Int) : Option QS := (s.W.find? (·.at k c)).map (·.q)
def SS.get (s : SS) (k : Nat) : Option Int → Option QS
 | none => s.P.getD k none
 | some c => s.find k c
structure SS.Ok (s : SS) : Prop where
 three : s.P.length = 3
 pools : ∀ q, some q ∈ s.P → q.Ok
 waits : ∀ x ∈ s.W, x.q.Ok ∧ s.is x.b = true ∧ 0 ≤ x.c ∧ x.c ≤ 1048576
 apart : s.W.Pairwise fun x y => ¬ (x.b = y.b ∧ x.c = y.c)
def SS.setP (s : SS) (k : Int) (q : QS) : SS := ⟨s.P.set k.toNat (some q), s.W⟩
def WP.put (k c : Int) (q : QS) (x : WP) : WP := if x.at k c then ⟨x.b, x.c, q⟩ else x
def SS.setW (s : SS) (k c : Int) (q : QS) : SS := ⟨s.P, if (s.find k c).isSome then s.W.map (WP.put k c q) else s.W ++ [⟨k, c, q⟩]⟩
def cycleC (c : Int) : Nat := if c < 0 ∨ 1048576 < c then 2 else 0
def SS.regOp (s : SS) (k : Int) : Nat × SS := if k < 0 ∨ 3 ≤ k then (2, s) else if s.is k then (5, s) else (0, s.setP k QS.new)
def SS.joinOp (s : SS) (o k n : Int) : Nat × SS :=
 match s.pool k with
 | none => (4, s)
 | some q => ((q.joinOp o n).1, s.setP k (q.joinOp o n).2)
def SS.leaveOp (s : SS) (o k n c : Int) : Nat × SS :=
 match s.pool k with
 | none => (4, s)
 | some q =>
   if cycleC c ≠ 0 then (2, s) else if (q.takeOp o n).1 ≠ 0 then ((q.takeOp o n).1, s)
   else
     let v := (s.find k c).getD QS.new
     if (v.joinOp o n).1 ≠ 0 then ((v.joinOp o n).1, s) else (0, (s.setP k (q.takeOp o n).2).setW k c (v.joinOp o n).2)
def WP.free (c : Int) (x : WP) : Bool := decide (x.c + 2 < c)
def WP.left (o c : Int) (x : WP) : WP := if x.free c then ⟨x.b, x.c, (x.q.leaveOp o).2.2⟩ else x
def WP.gets (o c : Int) (x : WP) : Int := if x.free c then (if (x.q.leaveOp o).2.1 = 0 then (x.q.leaveOp o).1 else 0) else 0
def WP.has (o c : Int) (x : WP) : Bool := x.free c && (x.q.leaveOp o).2.1 == 0
def SS.freeOp (s : SS) (o c : Int) : Int × Nat × SS :=
 if cycleC c ≠ 0 ∨ ownB o = false then (0, 2, s)
 else if s.W.any (·.has o c) then ((s.W.map (·.gets o c)).sum, 0, ⟨s.P, s.W.map (·.left o c)⟩) else (0, 4, ⟨s.P, s.W.map (·.left o c)⟩)
def SS.addOp (s : SS) (k n : Int) : Nat × SS :=
 match s.pool k with
 | none => (4, s)
 | some q => ((q.addOp n).1, s.setP k (q.addOp n).2)
def WP.hit (k f : Int) (x : WP) : Bool := x.b == k && decide (f ≤ x.c)
def WP.slash (k f p : Int) (x : WP) : WP := if x.hit k f then ⟨x.b, x.c, (x.q.slashOp p).2.2⟩ else x
def WP.loses (k f p : Int) (x : WP) : Int := if x.hit k f then (x.q.slashOp p).1 else 0
def SS.slashOp (s : SS) (k f p : Int) : Int × Nat × SS :=
 match s.pool k with
 | none => (0, 4, s)
 | some q => if (q.slashOp p).2.1 ≠ 0 then (0, (q.slashOp p).2.1, s) else ((q.slashOp p).1 + (s.W.map (·.loses k f p)).sum, 0, ⟨s.P.set k.toNat (some (q.slashOp p).2.2), s.W.map (·.slash k f p)⟩)
def SS.staked (s : SS) (k : Int) : Int := ((s.pool k).map (·.total)).getD 0
def SS.value (s : SS) (o k : Int) : Int := ((s.pool k).map (·.value o)).getD 0
def SS.waits (s : SS) (o k c : Int) : Int := ((s.find k c).map (·.value o)).getD 0
def optT (o : Option QS) : Int := (o.map (·.total)).getD 0
def SS.total (s : SS) : Int := (s.P.map optT).sum + (s.W.map (·.q.total)).sum
/-! ### what stays right -/
theorem SS.new_ok : SS.new.Ok := ⟨rfl, (fun q h => by simp [SS.new] at h), (fun x h => by cases h), List.Pairwise.nil⟩
theorem SS.Ok.lt {s : SS} (h : s.Ok) {k : Int} {q : QS} (hk : s.pool k = some q) : 0 ≤ k ∧ k < 3 := by
 unfold SS.pool at hk
 split at hk
 · next h0 =>
   refine ⟨h0, ?_⟩
   apply Decidable.byContradiction
   intro h3
   rw [List.getD_eq_getElem?_getD, List.getElem?_eq_none (by rw [h.three]; omega)] at hk
   cases hk
 · cases hk
theorem SS.Ok.at {s : SS} (h : s.Ok) {k : Int} {q : QS} (hk : s.pool k = some q) : s.P[k.toNat]? = some (some q) := by
 have hl := h.lt hk
 unfold SS.pool at hk
 rw [if_pos hl.1, List.getD_eq_getElem?_getD] at hk
 have : k.toNat < s.P.length := by rw [h.three]; omega
 rw [List.getElem?_eq_getElem this] at hk ⊢
 exact congrArg some hk
theorem SS.Ok.poolOk {s : SS} (h : s.Ok) {k : Int} {q : QS} (hk : s.pool k = some q) : q.Ok := h.pools q (List.mem_of_getElem? (h.at hk))
theorem SS.pool_nat {s : SS} {k : Nat} : s.pool (k : Int) = s.P.getD k none := by unfold SS.pool; rw [if_pos (by omega)]; rfl
theorem SS.pool_out {s : SS} (h : s.Ok) {k : Int} (hk : k < 0 ∨ 3 ≤ k) : s.pool k = none := by
 cases hp : s.pool k with
 | none => rfl
 | some q => have := h.lt hp; omega
theorem SS.pool_setP {s : SS} (h : s.Ok) {k : Int} (h0 : 0 ≤ k) (h3 : k < 3) (q : QS) (j : Int) : (s.setP k q).pool j = if j = k then some q else s.pool j := by
 unfold SS.pool SS.setP
 by_cases hj : 0 ≤ j
 · rw [if_pos hj, if_pos hj]
   simp only [List.getD_eq_getElem?_getD, List.getElem?_set]
   by_cases e : j = k
   · subst e; rw [if_pos rfl, if_pos rfl, if_pos (by rw [h.three]; omega)]; rfl
   · rw [if_neg (by omega), if_neg e]
 · rw [if_neg hj, if_neg hj, if_neg (by omega)]
theorem SS.is_setP {s : SS} (h : s.Ok) {k : Int} (h0 : 0 ≤ k) (h3 : k < 3) (q : QS) {j : Int} (hj : s.is j = true) : (s.setP k q).is j = true := by
 unfold SS.is; rw [SS.pool_setP h h0 h3]
 split
 · rfl
 · exact hj
theorem SS.Ok.setP {s : SS} (h : s.Ok) {k : Int} (h0 : 0 ≤ k) (h3 : k < 3) {q : QS} (hq : q.Ok) : (s.setP k q).Ok := by
 refine ⟨by simp [SS.setP, h.three], fun r hr => ?_, fun x hx => ?_, h.apart⟩
 · rcases List.mem_or_eq_of_mem_set hr with hr | hr
   · exact h.pools r hr
   · cases hr; exact hq
 · obtain ⟨w1, w2, w3⟩ := h.waits x hx
   exact ⟨w1, SS.is_setP h h0 h3 q w2, w3⟩
theorem WP.at_iff {x : WP} {k c : Int} : x.at k c = true ↔ x.b = k ∧ x.c = c := by unfold WP.at; simp
theorem SS.find_some {s : SS} {k c : Int} {q : QS} (h : s.find k c = some q) : ⟨k, c, q⟩ ∈ s.W := by
 unfold SS.find at h
 obtain ⟨x, hx, rfl⟩ := Option.map_eq_some_iff.1 h
 have h1 := List.find?_some hx
 obtain ⟨rfl, rfl⟩ := WP.at_iff.1 h1
 exact List.mem_of_find?_eq_some hx
theorem SS.find_mem {s : SS} (h : s.W.Pairwise fun x y => ¬ (x.b = y.b ∧ x.c = y.c)) {x : WP} (hx : x ∈ s.W) : s.find x.b x.c = some x.q := by
 unfold SS.find
 cases hf : s.W.find? (·.at x.b x.c) with
 | none =>
   have := List.find?_eq_none.1 hf x hx
   exact absurd (WP.at_iff.2 ⟨rfl, rfl⟩) this
 | some y =>
   have h1 := WP.at_iff.1 (List.find?_some (p := fun z : WP => z.at x.b x.c) hf)
   have hy := List.mem_of_find?_eq_some hf
   have : x = y := by
     apply Classical.byContradiction
     intro hne
     have hp : ∀ (l : List WP), l.Pairwise (fun x y => ¬ (x.b = y.b ∧ x.c = y.c)) → x ∈ l → y ∈ l → False := by
       intro l hl
       induction l with
       | nil => intro h; cases h
       | cons a r ih =>
         intro h1' h2'
         obtain ⟨p1, p2⟩ := List.pairwise_cons.1 hl
         rcases List.mem_cons.1 h1' with e1 | e1
         · rcases List.mem_cons.1 h2' with e2 | e2
           · exact hne (e1.trans e2.symm)
           · subst e1; exact p1 y e2 ⟨h1.1.symm, h1.2.symm⟩
         · rcases List.mem_cons.1 h2' with e2 | e2
           · subst e2; exact p1 x e1 ⟨h1.1, h1.2⟩
           · exact ih p2 e1 e2
     exact hp s.W h hx hy
   subst this; rfl
theorem SS.find_none {s : SS} {k c : Int} (h : s.find k c = none) : ∀ x ∈ s.W, ¬ (x.b = k ∧ x.c = c) := by
 unfold SS.find at h
 have := List.find?_eq_none.1 (Option.map_eq_none_iff.1 h)
 intro x hx hxx
 exact this x hx (WP.at_iff.2 hxx)
theorem SS.Ok.findOk {s : SS} (h : s.Ok) {k c : Int} {q : QS} (hf : s.find k c = some q) : q.Ok := (h.waits _ (SS.find_some hf)).1
theorem WP.put_b (k c : Int) (q : QS) (x : WP) : (WP.put k c q x).b = x.b ∧ (WP.put k c q x).c = x.c := by unfold WP.put; split <;> exact ⟨rfl, rfl⟩
theorem pairwise_map_same {l : List WP} {f : WP → WP} (hf : ∀ x, (f x).b = x.b ∧ (f x).c = x.c) (h : l.Pairwise fun x y => ¬ (x.b = y.b ∧ x.c = y.c)) : (l.map f).Pairwise fun x y => ¬ (x.b = y.b ∧ x.c = y.c) := by
 rw [List.pairwise_map]
 exact h.imp fun {a b} hab => by rw [(hf a).1, (hf a).2, (hf b).1, (hf b).2]; exact hab
theorem find_map_same {l : List WP} {f : WP → WP} (hf : ∀ x, (f x).b = x.b ∧ (f x).c = x.c) (k c : Int) : (l.map f).find? (·.at k c) = (l.find? (·.at k c)).map f := by
 induction l with
 | nil => rfl
 | cons a r ih =>
   have e : (f a).at k c = a.at k c := by unfold WP.at; rw [(hf a).1, (hf a).2]
   simp only [List.map_cons, List.find?_cons, e]
   split
   · rfl
   · exact ih
theorem SS.find_setW {s : SS} (k c : Int) (q : QS) (k' c' : Int) : (s.setW k c q).find k' c' = if k' = k ∧ c' = c then some q else s.find k' c' := by
 unfold SS.setW
 split
 · next hs =>
   unfold SS.find
   simp only
   rw [find_map_same (WP.put_b k c q)]
   by_cases e : k' = k ∧ c' = c
   · obtain ⟨rfl, rfl⟩ := e
     rw [if_pos ⟨rfl, rfl⟩]
     unfold SS.find at hs
     cases hf : s.W.find? (·.at k' c') with
     | none => rw [hf] at hs; cases hs
     | some y =>
       have := List.find?_some hf
       simp only [Option.map_some]
       unfold WP.put; rw [if_pos this]
   · rw [if_neg e]
     cases hf : s.W.find? (·.at k' c') with
     | none => rfl
     | some y =>
       have h1 := WP.at_iff.1 (List.find?_some (p := fun z : WP => z.at k' c') hf)
       simp only [Option.map_some]
       unfold WP.put; rw [if_neg]
       intro h2; have h3 := WP.at_iff.1 h2
       exact e ⟨by omega, by omega⟩
 · next hs =>
   unfold SS.find at hs ⊢
   simp only [List.find?_append]
   by_cases e : k' = k ∧ c' = c
   · obtain ⟨rfl, rfl⟩ := e
     rw [if_pos ⟨rfl, rfl⟩]
     cases hf : s.W.find? (·.at k' c') with
     | none => simp [WP.at]
     | some y => rw [hf] at hs; simp at hs
   · rw [if_neg e]
     cases hf : s.W.find? (·.at k' c') with
     | none =>
       have : (WP.mk k c q).at k' c' = false := by
         cases hx : (WP.mk k c q).at k' c' with
         | false => rfl
         | true => have := WP.at_iff.1 hx; simp only at this; exact absurd ⟨this.1.symm, this.2.symm⟩ e
       simp [this]
     | some y => simp
theorem SS.Ok.setW {s : SS} (h : s.Ok) {k c : Int} {q : QS} (hq : q.Ok) (hk : s.is k = true) (h0 : 0 ≤ c) (h1 : c ≤ 1048576) : (s.setW k c q).Ok := by
 unfold SS.setW
 split
 · next hs =>
   refine ⟨h.three, h.pools, fun x hx => ?_, pairwise_map_same (WP.put_b k c q) h.apart⟩
   obtain ⟨y, hy, rfl⟩ := List.mem_map.1 hx
   obtain ⟨w1, w2, w3, w4⟩ := h.waits y hy
   rw [(WP.put_b k c q y).1, (WP.put_b k c q y).2]
   refine ⟨?_, w2, w3, w4⟩
   unfold WP.put; split
   · exact hq
   · exact w1
 · next hs =>
   refine ⟨h.three, h.pools, fun x hx => ?_, ?_⟩
   · rcases List.mem_append.1 hx with hx | hx
     · exact h.waits x hx
     · obtain rfl := List.mem_singleton.1 hx
       exact ⟨hq, hk, h0, h1⟩
   · rw [List.pairwise_append]
     refine ⟨h.apart, List.pairwise_singleton _ _, fun x hx y hy => ?_⟩
     obtain rfl := List.mem_singleton.1 hy
     have hn : s.find k c = none := by cases hf : s.find k c with
       | none => rfl
       | some z => rw [hf] at hs; simp at hs
     exact SS.find_none hn x hx
theorem SS.Ok.mapW {s : SS} (h : s.Ok) {f : WP → WP} (hf : ∀ x, (f x).b = x.b ∧ (f x).c = x.c) (hq : ∀ x, x.q.Ok → (f x).q.Ok) : (SS.mk s.P (s.W.map f)).Ok := by
 refine ⟨h.three, h.pools, fun x hx => ?_, pairwise_map_same hf h.apart⟩
 obtain ⟨y, hy, rfl⟩ := List.mem_map.1 hx
 obtain ⟨w1, w2, w3⟩ := h.waits y hy
 rw [(hf y).1, (hf y).2]
 exact ⟨hq y w1, w2, w3⟩
theorem WP.left_b (o c : Int) (x : WP) : (x.left o c).b = x.b ∧ (x.left o c).c = x.c := by unfold WP.left; split <;> exact ⟨rfl, rfl⟩
theorem WP.left_ok (o c : Int) (x : WP) (h : x.q.Ok) : (x.left o c).q.Ok := by unfold WP.left; split; exact QS.leaveOp_ok h o; exact h
theorem WP.slash_b (k f p : Int) (x : WP) : (x.slash k f p).b = x.b ∧ (x.slash k f p).c = x.c := by unfold WP.slash; split <;> exact ⟨rfl, rfl⟩
theorem WP.slash_ok (k f p : Int) (x : WP) (h : x.q.Ok) : (x.slash k f p).q.Ok := by unfold WP.slash; split; exact QS.slashOp_ok h p; exact h
theorem cycleC_zero {c : Int} : cycleC c = 0 ↔ 0 ≤ c ∧ c ≤ 1048576 := by unfold cycleC; split <;> constructor <;> intro h <;> simp_all <;> omega
theorem SS.regOp_ok {s : SS} (h : s.Ok) (k : Int) : (s.regOp k).2.Ok := by
 unfold SS.regOp
 split
 · exact h
 · split
   · exact h
   · exact h.setP (by omega) (by omega) QS.new_ok
theorem SS.joinOp_ok {s : SS} (h : s.Ok) (o k n : Int) : (s.joinOp o k n).2.Ok := by
 unfold SS.joinOp
 cases hp : s.pool k with
 | none => exact h
 | some q => have := h.lt hp; exact h.setP this.1 this.2 (QS.joinOp_ok (h.poolOk hp) o n)
theorem SS.addOp_ok {s : SS} (h : s.Ok) (k n : Int) : (s.addOp k n).2.Ok := by
 unfold SS.addOp
 cases hp : s.pool k with
 | none => exact h
 | some q => have := h.lt hp; exact h.setP this.1 this.2 (QS.addOp_ok (h.poolOk hp) n)
theorem SS.findOr_ok {s : SS} (h : s.Ok) (k c : Int) : ((s.find k c).getD QS.new).Ok := by
 cases hf : s.find k c with
 | none => exact QS.new_ok
 | some q => exact h.findOk hf
theorem SS.leaveOp_ok {s : SS} (h : s.Ok) (o k n c : Int) : (s.leaveOp o k n c).2.Ok := by
 unfold SS.leaveOp
 cases hp : s.pool k with
 | none => exact h
 | some q =>
   have hl := h.lt hp
   simp only
   split
   · exact h
   · next hc =>
     obtain ⟨c0, c1⟩ := cycleC_zero.1 (Decidable.not_not.1 hc)
     split
     · exact h
     · split
       · exact h
       · refine (h.setP hl.1 hl.2 (QS.takeOp_ok (h.poolOk hp) o n)).setW (QS.joinOp_ok (SS.findOr_ok h k c) o n) ?_ c0 c1
         unfold SS.is; rw [SS.pool_setP h hl.1 hl.2, if_pos rfl]; rfl
theorem SS.freeOp_ok {s : SS} (h : s.Ok) (o c : Int) : (s.freeOp o c).2.2.Ok := by
 have := h.mapW (WP.left_b o c) (WP.left_ok o c)
 unfold SS.freeOp
 split
 · exact h
 · split <;> exact this
theorem SS.slashOp_ok {s : SS} (h : s.Ok) (k f p : Int) : (s.slashOp k f p).2.2.Ok := by
 unfold SS.slashOp
 cases hp : s.pool k with
 | none => exact h
 | some q =>
   have hl := h.lt hp
   simp only
   split
   · exact h
   · exact (h.setP hl.1 hl.2 (QS.slashOp_ok (h.poolOk hp) p)).mapW (WP.slash_b k f p) (WP.slash_ok k f p)
end Go.Proofs.YtajnfkmkombajaaGreatDoor
