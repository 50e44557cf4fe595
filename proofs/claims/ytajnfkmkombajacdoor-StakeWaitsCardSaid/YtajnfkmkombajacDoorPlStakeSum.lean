/- Plain: what all pools of stakes hold together, act by act. No program in sight. -/
import Derived.Test.YtajnfkmkombajacDoorPlStake
set_option linter.unusedVariables false
set_option linter.unusedSimpArgs false
namespace Go.Proofs.YtajnfkmkombajacDoor
open Go.RowKit

theorem sum_map_set {α : Type} (f : α → Int) : ∀ (l : List α) (i : Nat) (a b : α), l[i]? = some a → ((l.set i b).map f).sum = (l.map f).sum - f a + f b
  | [], i, a, b, h => by simp at h
  | x :: r, 0, a, b, h => by simp at h; subst h; simp; omega
  | x :: r, i + 1, a, b, h => by
    have := sum_map_set f r i a b (by simpa using h)
    simp only [List.set_cons_succ, List.map_cons, List.sum_cons, this]; omega
theorem sum_map_add {α : Type} (f g h : α → Int) (l : List α) (hh : ∀ x ∈ l, f x = g x + h x) : (l.map f).sum = (l.map g).sum + (l.map h).sum := by
  induction l with
  | nil => rfl
  | cons a r ih =>
    have h1 := hh a (by simp); have h2 := ih (fun x hx => hh x (by simp [hx]))
    simp only [List.map_cons, List.sum_cons]; omega

theorem SS.total_setP {s : SS} (h : s.Ok) {k : Int} {q : QS} (hk : s.pool k = some q) (q' : QS) : (s.setP k q').total = s.total - q.total + q'.total := by
  unfold SS.total SS.setP
  simp only [sum_map_set optT s.P k.toNat (some q) (some q') (h.at hk)]
  simp only [optT, Option.map_some, Option.getD_some]; omega
theorem SS.total_reg {s : SS} (h : s.Ok) {k : Int} (h0 : 0 ≤ k) (h3 : k < 3) (hk : s.pool k = none) (q' : QS) : (s.setP k q').total = s.total + q'.total := by
  have hat : s.P[k.toNat]? = some none := by
    unfold SS.pool at hk
    rw [if_pos h0, List.getD_eq_getElem?_getD, List.getElem?_eq_getElem (by rw [h.three]; omega)] at hk
    rw [List.getElem?_eq_getElem (by rw [h.three]; omega)]; exact congrArg some hk
  unfold SS.total SS.setP
  simp only [sum_map_set optT s.P k.toNat none (some q') hat]
  simp only [optT, Option.map_some, Option.map_none, Option.getD_some, Option.getD_none]; omega

theorem sum_put : ∀ (l : List WP) (k c : Int) (q q' : QS), (l.Pairwise fun x y => ¬ (x.b = y.b ∧ x.c = y.c)) → ⟨k, c, q⟩ ∈ l → ((l.map (WP.put k c q')).map (·.q.total)).sum = (l.map (·.q.total)).sum - q.total + q'.total
  | [], _, _, _, _, _, h => by cases h
  | x :: r, k, c, q, q', hp, h => by
    obtain ⟨p1, p2⟩ := List.pairwise_cons.1 hp
    simp only [List.map_cons, List.sum_cons]
    rcases List.mem_cons.1 h with e | e
    · subst e
      have e1 : WP.put k c q' ⟨k, c, q⟩ = ⟨k, c, q'⟩ := by unfold WP.put; rw [if_pos (WP.at_iff.2 ⟨rfl, rfl⟩)]
      have e2 : r.map (WP.put k c q') = r := by
        rw [List.map_congr_left (g := id)]
        · simp
        · intro y hy
          unfold WP.put; rw [if_neg]
          · rfl
          · intro hat; have := WP.at_iff.1 hat; exact p1 y hy ⟨this.1.symm, this.2.symm⟩
      rw [e1, e2]; simp only; omega
    · have e1 : WP.put k c q' x = x := by
        unfold WP.put; rw [if_neg]
        intro hat; have := WP.at_iff.1 hat
        exact p1 _ e ⟨this.1, this.2⟩
      rw [e1, sum_put r k c q q' p2 e]; omega
theorem SS.total_setW {s : SS} (h : s.Ok) (k c : Int) (q' : QS) : (s.setW k c q').total = s.total - ((s.find k c).getD ⟨0, 0, []⟩).total + q'.total := by
  unfold SS.setW SS.total
  cases hf : s.find k c with
  | some q =>
    simp only [Option.isSome_some, if_true, Option.getD_some]
    rw [sum_put s.W k c q q' h.apart (SS.find_some hf)]; omega
  | none =>
    simp only [Option.isSome_none, Bool.false_eq_true, if_false, Option.getD_none, List.map_append, List.sum_append, List.map_cons, List.map_nil, List.sum_cons, List.sum_nil]; omega

/-! ### pools, act by act -/
theorem QS.join_total {q : QS} (o n : Int) : ((q.joinOp o n).1 = 0 → (q.joinOp o n).2.total = q.total + n) ∧ ((q.joinOp o n).1 ≠ 0 → (q.joinOp o n).2 = q) := by
  unfold QS.joinOp
  repeat' split
  all_goals (refine ⟨fun h => ?_, fun h => ?_⟩ <;> simp_all [QS.change])
theorem QS.take_total {q : QS} (o n : Int) : ((q.takeOp o n).1 = 0 → (q.takeOp o n).2.total = q.total - n) ∧ ((q.takeOp o n).1 ≠ 0 → (q.takeOp o n).2 = q) := by
  unfold QS.takeOp
  repeat' split
  all_goals (refine ⟨fun h => ?_, fun h => ?_⟩ <;> simp_all [QS.change] <;> omega)
theorem QS.leave_total {q : QS} (o : Int) : (q.leaveOp o).2.2.total = q.total - (q.leaveOp o).1 ∧ ((q.leaveOp o).2.1 ≠ 0 → (q.leaveOp o).1 = 0 ∧ (q.leaveOp o).2.2 = q) := by
  unfold QS.leaveOp
  repeat' split
  all_goals (refine ⟨?_, fun h => ?_⟩ <;> simp_all [QS.change] <;> omega)
theorem QS.leave_pos {q : QS} (h : q.Ok) (o : Int) : 0 ≤ (q.leaveOp o).1 ∧ (q.leaveOp o).1 ≤ 1125899906842624 := by
  have hv := h.value_bd o
  have ht := h.t1
  unfold QS.leaveOp
  repeat' split
  all_goals simp only
  all_goals omega
theorem QS.add_total {q : QS} (n : Int) : ((q.addOp n).1 = 0 → (q.addOp n).2.total = q.total + n) ∧ ((q.addOp n).1 ≠ 0 → (q.addOp n).2 = q) := by
  unfold QS.addOp
  repeat' split
  all_goals (refine ⟨fun h => ?_, fun h => ?_⟩ <;> simp_all)
theorem QS.slash_total {q : QS} (h : q.Ok) (p : Int) : (q.slashOp p).2.2.total = q.total - (q.slashOp p).1 ∧ (0 ≤ (q.slashOp p).1 ∧ (q.slashOp p).1 ≤ 1125899906842624) ∧ ((q.slashOp p).2.1 ≠ 0 → (q.slashOp p).1 = 0 ∧ (q.slashOp p).2.2 = q) ∧ ((q.slashOp p).2.1 = 0 ↔ 0 ≤ p ∧ p ≤ 100) := by
  have t1 := h.t1
  unfold QS.slashOp
  split
  · next hc => refine ⟨by simp, by simp, fun _ => ⟨rfl, rfl⟩, by simp; omega⟩
  · next hc =>
    have := slash_bd h.t0 (show 0 ≤ p by omega) (by omega)
    refine ⟨rfl, by simp only; omega, fun h => absurd rfl h, by simp; omega⟩

/-! ### all acts -/
theorem SS.setP_same {s : SS} (h : s.Ok) {k : Int} {q : QS} (hk : s.pool k = some q) : s.setP k q = s := by
  have hat := h.at hk
  unfold SS.setP
  have : s.P.set k.toNat (some q) = s.P := by
    apply List.ext_getElem?
    intro i
    rw [List.getElem?_set]
    split
    · next e => subst e; rw [if_pos (by have := (List.getElem?_eq_some_iff.1 hat).1; omega), hat]
    · rfl
  rw [this]
theorem SS.join_total {s : SS} (h : s.Ok) (o k n : Int) : ((s.joinOp o k n).1 = 0 → (s.joinOp o k n).2.total = s.total + n) ∧ ((s.joinOp o k n).1 ≠ 0 → (s.joinOp o k n).2.total = s.total) := by
  unfold SS.joinOp
  cases hp : s.pool k with
  | none => exact ⟨fun h => (by cases h), fun _ => rfl⟩
  | some q =>
    obtain ⟨a, b⟩ := QS.join_total (q := q) o n
    simp only
    rw [SS.total_setP h hp]
    exact ⟨fun hc => by rw [a hc]; omega, fun hc => by rw [b hc]; omega⟩
theorem SS.add_total {s : SS} (h : s.Ok) (k n : Int) : ((s.addOp k n).1 = 0 → (s.addOp k n).2.total = s.total + n) ∧ ((s.addOp k n).1 ≠ 0 → (s.addOp k n).2.total = s.total) := by
  unfold SS.addOp
  cases hp : s.pool k with
  | none => exact ⟨fun h => (by cases h), fun _ => rfl⟩
  | some q =>
    obtain ⟨a, b⟩ := QS.add_total (q := q) n
    simp only
    rw [SS.total_setP h hp]
    exact ⟨fun hc => by rw [a hc]; omega, fun hc => by rw [b hc]; omega⟩
theorem SS.reg_total {s : SS} (h : s.Ok) (k : Int) : (s.regOp k).2.total = s.total := by
  unfold SS.regOp
  split
  · rfl
  · split
    · rfl
    · next h1 h2 =>
      have hn : s.pool k = none := by
        unfold SS.is at h2
        cases hp : s.pool k with
        | none => rfl
        | some q => rw [hp] at h2; simp at h2
      rw [SS.total_reg h (by omega) (by omega) hn]; simp [QS.new]
theorem SS.leave_total {s : SS} (h : s.Ok) (o k n c : Int) : (s.leaveOp o k n c).2.total = s.total := by
  unfold SS.leaveOp
  cases hp : s.pool k with
  | none => rfl
  | some q =>
    have hl := h.lt hp
    simp only
    split
    · rfl
    · split
      · rfl
      · next hc =>
        split
        · rfl
        · next hw =>
          have h1 := h.setP hl.1 hl.2 (QS.takeOp_ok (h.poolOk hp) o n)
          rw [SS.total_setW h1, SS.total_setP h hp, (QS.take_total o n).1 (Decidable.not_not.1 hc), (QS.join_total o n).1 (Decidable.not_not.1 hw)]
          have e : (s.setP k (q.takeOp o n).2).find k c = s.find k c := rfl
          rw [e]
          cases s.find k c with
          | none => simp [QS.new]; omega
          | some z => simp; omega
theorem SS.free_total {s : SS} (h : s.Ok) (o c : Int) : (s.freeOp o c).2.2.total = s.total - (s.freeOp o c).1 ∧ 0 ≤ (s.freeOp o c).1 ∧ ((s.freeOp o c).2.1 ≠ 0 → (s.freeOp o c).1 = 0) := by
  have hsum : ((s.W.map (·.left o c)).map (·.q.total)).sum = (s.W.map (·.q.total)).sum - (s.W.map (·.gets o c)).sum := by
    have := sum_map_add (fun x : WP => x.q.total) (fun x => (x.left o c).q.total) (·.gets o c) s.W (fun x hx => by
      obtain ⟨l1, l2⟩ := QS.leave_total (q := x.q) o
      unfold WP.left WP.gets
      split
      · simp only; split
        · omega
        · next hne => have := l2 hne; omega
      · simp)
    rw [List.map_map]
    have e : (s.W.map ((fun x : WP => x.q.total) ∘ fun x => x.left o c)).sum = (s.W.map fun x => (x.left o c).q.total).sum := rfl
    rw [e]; omega
  have hpos : 0 ≤ (s.W.map (·.gets o c)).sum := by
    have : ∀ x ∈ s.W.map (·.gets o c), 0 ≤ x := by
      intro x hx
      obtain ⟨y, hy, rfl⟩ := List.mem_map.1 hx
      have := (QS.leave_pos (h.waits y hy).1 o).1
      unfold WP.gets; repeat' split
      all_goals omega
    exact (sum_le_of_nonneg this 0).2.1
  unfold SS.freeOp
  split
  · exact ⟨by simp, by simp, fun _ => rfl⟩
  · split
    · refine ⟨?_, hpos, fun h => absurd rfl h⟩
      unfold SS.total; simp only; omega
    · next hn =>
      have hz : (s.W.map (·.gets o c)).sum = 0 := by
        have : s.W.map (·.gets o c) = s.W.map fun _ => (0 : Int) := by
          apply List.map_congr_left
          intro x hx
          have hx' : x.has o c = false := by
            simp only [List.any_eq_true, not_exists, not_and] at hn
            simpa using hn x hx
          unfold WP.has at hx'; unfold WP.gets
          split
          · next hf => rw [hf] at hx'; simp at hx'; rw [if_neg hx']
          · rfl
        rw [this]
        clear this hsum hpos hn h
        induction s.W with
        | nil => rfl
        | cons a r ih => simpa using ih
      refine ⟨?_, by simp, fun _ => rfl⟩
      unfold SS.total; simp only; omega
theorem SS.slash_total {s : SS} (h : s.Ok) (k f p : Int) : (s.slashOp k f p).2.2.total = s.total - (s.slashOp k f p).1 ∧ 0 ≤ (s.slashOp k f p).1 ∧ ((s.slashOp k f p).2.1 ≠ 0 → (s.slashOp k f p).1 = 0) := by
  unfold SS.slashOp
  cases hp : s.pool k with
  | none => exact ⟨by simp, by simp, fun _ => rfl⟩
  | some q =>
    obtain ⟨q1, q2, q3, q4⟩ := QS.slash_total (h.poolOk hp) p
    simp only
    split
    · exact ⟨by simp, by simp, fun _ => rfl⟩
    · next hc =>
      have hsum : ((s.W.map (·.slash k f p)).map (·.q.total)).sum = (s.W.map (·.q.total)).sum - (s.W.map (·.loses k f p)).sum := by
        have := sum_map_add (fun x : WP => x.q.total) (fun x => (x.slash k f p).q.total) (·.loses k f p) s.W (fun x hx => by
          obtain ⟨l1, _⟩ := QS.slash_total (h.waits x hx).1 p
          unfold WP.slash WP.loses
          split
          · simp only; omega
          · simp)
        rw [List.map_map]
        have e : (s.W.map ((fun x : WP => x.q.total) ∘ fun x => x.slash k f p)).sum = (s.W.map fun x => (x.slash k f p).q.total).sum := rfl
        rw [e]; omega
      have hpos : 0 ≤ (s.W.map (·.loses k f p)).sum := by
        have : ∀ x ∈ s.W.map (·.loses k f p), 0 ≤ x := by
          intro x hx
          obtain ⟨y, hy, rfl⟩ := List.mem_map.1 hx
          have := (QS.slash_total (h.waits y hy).1 p).2.1
          unfold WP.loses; split
          all_goals omega
        exact (sum_le_of_nonneg this 0).2.1
      have hP := SS.total_setP h hp (q.slashOp p).2.2
      unfold SS.setP SS.total at hP
      simp only at hP
      refine ⟨?_, by omega, fun h => absurd rfl h⟩
      unfold SS.total; simp only; omega
theorem SS.new_total : SS.new.total = 0 := by rfl
/-- how much there may be -/
theorem SS.Ok.total_bd {s : SS} (h : s.Ok) : 0 ≤ s.total ∧ s.total ≤ 1125899906842624 * (3 + (s.W.length : Int)) := by
  have h1 : ∀ l : List (Option QS), (∀ q, some q ∈ l → q.Ok) → 0 ≤ (l.map optT).sum ∧ (l.map optT).sum ≤ 1125899906842624 * (l.length : Int) := by
    intro l hl
    induction l with
    | nil => simp
    | cons a r ih =>
      have := ih (fun q hq => hl q (by simp [hq]))
      have ha : 0 ≤ optT a ∧ optT a ≤ 1125899906842624 := by
        cases a with
        | none => simp [optT]
        | some q => have hq := hl q (by simp); exact ⟨hq.t0, hq.t1⟩
      simp only [List.map_cons, List.sum_cons, List.length_cons]; omega
  have h2 : ∀ l : List WP, (∀ x ∈ l, x.q.Ok) → 0 ≤ (l.map (·.q.total)).sum ∧ (l.map (·.q.total)).sum ≤ 1125899906842624 * (l.length : Int) := by
    intro l hl
    induction l with
    | nil => simp
    | cons a r ih =>
      have := ih (fun q hq => hl q (by simp [hq]))
      have ha := hl a (by simp)
      have := ha.t0; have := ha.t1
      simp only [List.map_cons, List.sum_cons, List.length_cons]; omega
  have p1 := h1 s.P h.pools
  have p2 := h2 s.W (fun x hx => (h.waits x hx).1)
  rw [h.three] at p1
  unfold SS.total; omega
end Go.Proofs.YtajnfkmkombajacDoor
