/- Plain: the document's pool reckons the same. No program in sight. -/
import Derived.Test.YtajnfkmkombajabDoorPlFair
set_option linter.unusedVariables false
set_option linter.unusedSimpArgs false
namespace Go.Proofs.YtajnfkmkombajabDoor
open Go.RowKit

theorem slash_doc {t c : Int} (h0 : 0 ≤ t) (h1 : t ≤ 1125899906842624) (h2 : 0 ≤ c) (h3 : c ≤ 100) :
    t / 100 * c + t % 100 * c / 100 = t * c / 100 ∧ (0 ≤ t / 100 ∧ t / 100 ≤ 11258999068427) ∧ (0 ≤ t % 100 ∧ t % 100 ≤ 99) ∧ (0 ≤ t / 100 * c ∧ t / 100 * c ≤ 1125899906842700) ∧ (0 ≤ t % 100 * c ∧ t % 100 * c ≤ 9900) ∧ (0 ≤ t % 100 * c / 100 ∧ t % 100 * c / 100 ≤ 99) := by
  have e := Int.mul_ediv_add_emod t 100
  have e2 : t * c = t % 100 * c + 100 * (t / 100 * c) := by
    rw [← Int.mul_assoc, ← Int.add_mul]; congr 1; omega
  have b1 : 0 ≤ t % 100 ∧ t % 100 ≤ 99 := by omega
  have b0 : 0 ≤ t / 100 ∧ t / 100 ≤ 11258999068427 := by omega
  have m1 : 0 ≤ t / 100 * c := Int.mul_nonneg b0.1 h2
  have m2 : t / 100 * c ≤ t / 100 * 100 := Int.mul_le_mul_of_nonneg_left h3 b0.1
  have m3 : 0 ≤ t % 100 * c := Int.mul_nonneg b1.1 h2
  have m4 : t % 100 * c ≤ 99 * 100 := Int.mul_le_mul b1.2 h3 h2 (by omega)
  refine ⟨?_, b0, b1, ⟨m1, by omega⟩, ⟨m3, by omega⟩, by omega⟩
  rw [e2, Int.add_mul_ediv_left _ _ (by omega : (100 : Int) ≠ 0)]; omega

/-- the ways of joining -/
theorem join_no {q : QS} {o n : Int} (h : plookC o n ≠ 0) : q.joinOp o n = (2, q) := by unfold QS.joinOp; rw [if_pos h]
theorem join_gone {q : QS} {o n : Int} (h : plookC o n = 0) (h1 : 0 < q.all) (h2 : q.total = 0) : q.joinOp o n = (8, q) := by
  unfold QS.joinOp; rw [if_neg (by simp [h]), if_pos ⟨h1, h2⟩]
theorem join_over {q : QS} {o n : Int} (h : plookC o n = 0) (h1 : 0 < q.all) (h2 : q.total ≠ 0) (h3 : ¬ overOk n q.all q.total) : q.joinOp o n = (2, q) := by
  unfold QS.joinOp QS.joinC; rw [if_neg (by simp [h]), if_neg (fun k => h2 k.2), if_pos (by rw [if_pos h1, (over_no h3).1]; simp)]
theorem join_in {q : QS} {o n : Int} (h : plookC o n = 0) (h1 : 0 < q.all) (h2 : q.total ≠ 0) (h3 : overOk n q.all q.total) :
    q.joinOp o n = if ¬ (q.total + n ≤ 1125899906842624 ∧ q.all + n * q.all / q.total ≤ 1125899906842624) then (2, q) else if n * q.all / q.total = 0 then (7, q) else (0, q.change o (n * q.all / q.total) n) := by
  have e : q.joinS n = n * q.all / q.total := by unfold QS.joinS; rw [if_pos h1, (over_yes h3).2.1]
  unfold QS.joinOp QS.joinC; rw [if_neg (by simp [h]), if_neg (fun k => h2 k.2), if_neg (by rw [if_pos h1, (over_yes h3).1]; simp), e]
theorem join_first {q : QS} (hq : q.Ok) {o n : Int} (h : plookC o n = 0) (h1 : q.all = 0) : q.joinOp o n = (0, q.change o n n) := by
  obtain ⟨_, n0, n1⟩ := plookC_zero.1 h
  have e : q.joinS n = n := by unfold QS.joinS; rw [if_neg (by omega)]
  have ht := hq.nil h1
  unfold QS.joinOp QS.joinC; rw [if_neg (by simp [h]), if_neg (by omega), if_neg (by rw [if_neg (by omega)]; simp), e, if_neg (by simp; omega), if_neg (by omega)]
/-- .. of taking -/
theorem take_no {q : QS} {o n : Int} (h : plookC o n ≠ 0) : q.takeOp o n = (2, q) := by unfold QS.takeOp; rw [if_pos h]
theorem take_short {q : QS} {o n : Int} (h : plookC o n = 0) (h1 : q.value o < n) : q.takeOp o n = (6, q) := by unfold QS.takeOp; rw [if_neg (by simp [h]), if_pos h1]
theorem take_all {q : QS} {o n : Int} (h : plookC o n = 0) (h1 : ¬ q.value o < n) (h2 : upN n q.all q.total = q.all ∧ n < q.total) : q.takeOp o n = (6, q) := by unfold QS.takeOp; rw [if_neg (by simp [h]), if_neg h1, if_pos h2]
theorem take_in {q : QS} {o n : Int} (h : plookC o n = 0) (h1 : ¬ q.value o < n) (h2 : ¬ (upN n q.all q.total = q.all ∧ n < q.total)) : q.takeOp o n = (0, q.change o (-upN n q.all q.total) (-n)) := by
  unfold QS.takeOp; rw [if_neg (by simp [h]), if_neg h1, if_neg h2]
theorem up_parts {a b c : Int} (h : upC a b c = 0) : overOk a b c ∧ upN a b c = a * b / c + (if a * b % c = 0 then 0 else 1) := by
  by_cases hu : upOk a b c
  · exact ⟨hu.1, (up_yes hu).2⟩
  · rw [(up_no hu).1] at h; cases h
end Go.Proofs.YtajnfkmkombajabDoor
