/- Plain: sums over what waits, baker by baker. No program in sight. -/
import Derived.Test.YtajnfkmkombajacDoorPlPart2
set_option linter.unusedVariables false
set_option linter.unusedSimpArgs false
namespace Go.Proofs.YtajnfkmkombajacDoor
open Go.RowKit

/-- of the first k bakers all is done; of baker k what is no longer to come -/
def dn (k : Nat) (left : Lit → Bool) : Int → Int → Bool := fun b x => decide (b < (k : Int)) || (b == (k : Int) && !left (.int .i64 x))
/-- of the first k bakers all is done -/
def dk (k : Nat) : Int → Int → Bool := fun b _ => decide (b < (k : Int))
theorem dn_step (k : Nat) (left : Lit → Bool) (x : Int) : dn k (fun z => left z && !z.sameKey (.int .i64 x)) = addD (dn k left) k x := by
  funext b y
  have e : (Lit.int .i64 y).sameKey (.int .i64 x) = (y == x) := by
    by_cases h : y = x
    · subst h; simp [Lit.sameKey]
    · simp [Lit.sameKey, h]
  unfold dn addD
  simp only [e]
  cases decide (b < (k : Int)) <;> cases (b == (k : Int)) <;> cases left (.int .i64 y) <;> cases (y == x) <;> rfl
theorem dn_left {k : Nat} {left : Lit → Bool} {x : Int} (h : left (.int .i64 x) = true) : dn k left (k : Int) x = false := by
  unfold dn; simp [h]
theorem dn_end {k : Nat} {left : Lit → Bool} (h : ∀ kl, left kl = false) : dn k left = dk (k + 1) := by
  funext b y
  unfold dn dk
  rw [h]
  simp only [Bool.not_false, Bool.and_true]
  by_cases h1 : b < (k : Int)
  · rw [decide_eq_true h1, decide_eq_true (show b < ((k + 1 : Nat) : Int) by omega)]; rfl
  · rw [decide_eq_false h1]
    by_cases h2 : b = (k : Int)
    · rw [beq_iff_eq.2 h2, decide_eq_true (show b < ((k + 1 : Nat) : Int) by omega)]; rfl
    · rw [beq_eq_false_iff_ne.2 h2, decide_eq_false (show ¬ b < ((k + 1 : Nat) : Int) by omega)]; rfl

section
variable {s : SS} {g : WP → Int} {f : WP → WP} {p : WP → Bool}
/-- two ways to say what is done that agree on what is there -/
theorem SS.sumF_congr {d1 d2 : Int → Int → Bool} (h : ∀ x ∈ s.W, d1 x.b x.c = d2 x.b x.c) : s.sumF d1 g = s.sumF d2 g := by
  unfold SS.sumF; rw [List.map_congr_left (fun x hx => by rw [h x hx])]
theorem SS.partF_congr {d1 d2 : Int → Int → Bool} (h : ∀ x ∈ s.W, d1 x.b x.c = d2 x.b x.c) : s.partF d1 f = s.partF d2 f := by
  unfold SS.partF; rw [List.map_congr_left (fun x hx => by rw [h x hx])]
theorem any_congr_left {l : List WP} {p q : WP → Bool} (h : ∀ x ∈ l, p x = q x) : l.any p = l.any q := by
  induction l with
  | nil => rfl
  | cons a r ih => rw [List.any_cons, List.any_cons, h a (by simp), ih (fun x hx => h x (by simp [hx]))]
theorem SS.anyF_congr {d1 d2 : Int → Int → Bool} (h : ∀ x ∈ s.W, d1 x.b x.c = d2 x.b x.c) : s.anyF d1 p = s.anyF d2 p := by
  unfold SS.anyF; exact any_congr_left (fun x hx => by rw [h x hx])
theorem SS.Ok.wb (h : s.Ok) {x : WP} (hx : x ∈ s.W) : 0 ≤ x.b ∧ x.b < 3 ∧ s.is x.b = true := by
  have h2 := (h.waits x hx).2.1
  have : ∃ q, s.pool x.b = some q := by
    unfold SS.is at h2
    cases hp : s.pool x.b with
    | none => rw [hp] at h2; cases h2
    | some q => exact ⟨q, rfl⟩
  obtain ⟨q, hq⟩ := this
  have := h.lt hq
  exact ⟨this.1, this.2, h2⟩
theorem dk_zero (h : s.Ok) : ∀ x ∈ s.W, dk 0 x.b x.c = false := fun x hx => by have := (h.wb hx).1; unfold dk; simp; omega
theorem dk_three (h : s.Ok) : ∀ x ∈ s.W, dk 3 x.b x.c = true := fun x hx => by have := (h.wb hx).2.1; unfold dk; simp; omega
/-- a baker that is not registered has nothing that waits -/
theorem dk_skip (h : s.Ok) {k : Nat} (hi : s.is k = false) : ∀ x ∈ s.W, dk k x.b x.c = dk (k + 1) x.b x.c := fun x hx => by
  have h2 := (h.wb hx).2.2
  have hne : x.b ≠ (k : Int) := fun e => by rw [e, hi] at h2; cases h2
  unfold dk
  by_cases h1 : x.b < (k : Int)
  · rw [decide_eq_true h1, decide_eq_true (by omega)]
  · rw [decide_eq_false h1, decide_eq_false (by omega)]

/-- the sum of the first k bakers' pools, and of what is done -/
def SS.tot (s : SS) (k : Nat) (d : Int → Int → Bool) : Int := ((s.P.take k).map optT).sum + s.sumF d (·.q.total)
theorem SS.tot_zero (h : s.Ok) : s.tot 0 (dk 0) = 0 := by unfold SS.tot; rw [SS.sumF_none (dk_zero h)]; simp
theorem SS.tot_three (h : s.Ok) : s.tot 3 (dk 3) = s.total := by
  unfold SS.tot SS.total; rw [SS.sumF_all (dk_three h), List.take_of_length_le (by rw [h.three]; omega)]
theorem SS.take_succ (h : s.Ok) {k : Nat} (hk : k < 3) : ((s.P.take (k + 1)).map optT).sum = ((s.P.take k).map optT).sum + s.staked k := by
  have hl : k < s.P.length := by rw [h.three]; exact hk
  rw [List.take_succ_eq_append_getElem hl, List.map_append, List.sum_append]
  have : s.staked (k : Int) = optT s.P[k] := by
    unfold SS.staked; rw [SS.pool_nat, List.getD_eq_getElem?_getD, List.getElem?_eq_getElem hl]; rfl
  rw [this]; simp
theorem SS.tot_skip (h : s.Ok) {k : Nat} (hk : k < 3) (hi : s.is k = false) : s.tot (k + 1) (dk (k + 1)) = s.tot k (dk k) := by
  unfold SS.tot
  rw [SS.take_succ h hk, SS.sumF_congr (dk_skip h hi)]
  have : s.staked (k : Int) = 0 := by
    unfold SS.is at hi
    unfold SS.staked
    cases hp : s.pool (k : Int) with
    | none => rfl
    | some q => rw [hp] at hi; cases hi
  omega
theorem SS.tot_bd (h : s.Ok) {k : Nat} (hk : k ≤ 3) (d : Int → Int → Bool) : 0 ≤ s.tot k d ∧ s.tot k d ≤ 1125899906842624 * (3 + (s.W.length : Int)) := by
  have h1 := SS.sumF_bd (done := d) (g := fun x => x.q.total) h (fun x hx => ⟨hx.t0, hx.t1⟩)
  have h2 : ∀ l : List (Option QS), (∀ q, some q ∈ l → q.Ok) → 0 ≤ (l.map optT).sum ∧ (l.map optT).sum ≤ 1125899906842624 * (l.length : Int) := by
    intro l hl
    induction l with
    | nil => simp
    | cons a r ih =>
      have := ih (fun q hq => hl q (by simp [hq]))
      have ha : 0 ≤ optT a ∧ optT a ≤ 1125899906842624 := by
        cases a with
        | none => simp [optT]
        | some q => have hq := hl q (by simp); exact ⟨hq.t0, hq.t1⟩
      simp only [List.map_cons, List.sum_cons, List.length_cons]; omega
  have h3 := h2 (s.P.take k) (fun q hq => h.pools q (List.mem_of_mem_take hq))
  have h4 : (s.P.take k).length ≤ 3 := by rw [List.length_take]; omega
  unfold SS.tot; omega
theorem SS.tot_add (h : s.Ok) {k c : Int} {q : QS} {j : Nat} {d : Int → Int → Bool} (hq : s.find k c = some q) (hd : d k c = false) : s.tot j (addD d k c) = s.tot j d + q.total := by
  unfold SS.tot; rw [SS.sumF_add h hq hd]; simp only; omega
end
end Go.Proofs.YtajnfkmkombajacDoor
