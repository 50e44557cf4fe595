/-
  A chain as plain numbers: what each call answers and leaves; that its sums are right. No program in sight.
  Evidence as a map's key: how it reads; a look-up of a bool in a map of the call's own.
  Plain: an act on a chain. No program in sight.
  Plain facts on Knuth's division of two digits by one (math/bits.Div64), on natural numbers. No program in sight.
-/
import Derived.Test.YtajnfkmkombajabGreatDoorQSR05
import Derived.Test.YtajnfkmkombajabGreatDoorQSR01
import Derived.Maps.OwnOps
import Derived.Maps.OwnSet
import Derived.DeepKeys4
import Derived.WalkKit
import Derived.Lib.BitFns
set_option linter.unusedVariables false
set_option linter.unusedSimpArgs false
set_option linter.unusedVariables false
namespace Go.Proofs.YtajnfkmkombajabGreatDoor
open Go.RowKit

/-- evidence: a baker, a cycle, a number -/
structure EV where
  b : Int
  c : Int
  n : Int
deriving DecidableEq
/-- a court: all cases that were ever taken; so many of them were asked for -/
structure KS where
  L : List (Int × EV)
  done : Nat
def KS.new : KS := ⟨[], 0⟩
def KS.due (k : KS) : List (Int × EV) := k.L.drop k.done
def KS.code (k : KS) (o : Int) (e : EV) (cy : Int) : Nat :=
  if ownB o = false ∨ e.b < 0 ∨ 3 ≤ e.b ∨ e.n < 0 ∨ cy < 0 ∨ 1048576 < cy then 2
  else if cy < e.c ∨ e.c < cy - 2 ∨ e.c < 0 then 10 else if k.L.any (fun x => decide (x.2 = e)) then 5 else 0
def KS.accuse (k : KS) (o : Int) (e : EV) (cy : Int) : Nat × KS := if k.code o e cy ≠ 0 then (k.code o e cy, k) else (0, ⟨k.L ++ [(o, e)], k.done⟩)
def KS.asked (k : KS) : KS := ⟨k.L, k.L.length⟩
def pct (n : Int) : Int := if n.tmod 2 = 0 then 5 else 50

structure CS where
  p : PS
  s : SS
  k : KS
  cycle : Int
  level : Int
  bonus : Int
  pics : List (List Int)

def pic1 (n : Int) : Int := if n < 100 then 0 else if 1073741824 < n then 1073741824 else n
def SS.picture (s : SS) : List Int := [pic1 (s.staked 0), pic1 (s.staked 1), pic1 (s.staked 2)]
def CS.stakedAll (c : CS) : Int := c.s.staked 0 + c.s.staked 1 + c.s.staked 2
def CS.ratio (c : CS) : Int := ratioN c.stakedAll c.p.supply
def CS.stakeOp (c : CS) (o b n : Int) : Nat × CS :=
  if (c.p.outOp o n).1 ≠ 0 then ((c.p.outOp o n).1, c)
  else if (c.s.joinOp o b n).1 ≠ 0 then ((c.s.joinOp o b n).1, { c with p := ((c.p.outOp o n).2.inOp o n).2, s := (c.s.joinOp o b n).2 })
  else (0, { c with p := (c.p.outOp o n).2, s := (c.s.joinOp o b n).2 })
def CS.freeOp (c : CS) (o : Int) : Int × Nat × CS :=
  if (c.s.freeOp o c.cycle).2.1 ≠ 0 then (0, (c.s.freeOp o c.cycle).2.1, { c with s := (c.s.freeOp o c.cycle).2.2 })
  else ((c.s.freeOp o c.cycle).1, (c.p.inOp o (c.s.freeOp o c.cycle).1).1, { c with s := (c.s.freeOp o c.cycle).2.2, p := (c.p.inOp o (c.s.freeOp o c.cycle).1).2 })
def CS.issues (c : CS) : Int := rewardN c.p.supply (rateN c.ratio c.bonus)
def CS.reward (c : CS) (b : Int) : Int × CS :=
  if 1125899906842624 < c.p.supply + c.issues then (0, c)
  else if (c.s.addOp b c.issues).1 ≠ 0 then (0, { c with s := (c.s.addOp b c.issues).2 })
  else if (c.p.growOp c.issues).1 ≠ 0 then (0, { c with s := (c.s.addOp b c.issues).2, p := (c.p.growOp c.issues).2 })
  else (c.issues, { c with s := (c.s.addOp b c.issues).2, p := (c.p.growOp c.issues).2 })
def CS.judge (c : CS) (x : Int × EV) : CS :=
  { c with s := (c.s.slashOp x.2.b x.2.c (pct x.2.n)).2.2, p := ((c.p.inOp x.1 ((c.s.slashOp x.2.b x.2.c (pct x.2.n)).1 / 7)).2.burnOp ((c.s.slashOp x.2.b x.2.c (pct x.2.n)).1 - (c.s.slashOp x.2.b x.2.c (pct x.2.n)).1 / 7)).2 }
def CS.judged (c : CS) : CS := (c.k.due.foldl CS.judge c)
/-- the picture of a cycle's end, or the last one -/
def CS.newPic (c : CS) : List Int := if c.s.picture = [0, 0, 0] then c.pics.getD 2 [] else c.s.picture
def CS.endOp (c : CS) : CS :=
  let d := c.judged
  { d with k := c.k.asked, bonus := bonusN d.bonus d.ratio, cycle := d.cycle + 1, pics := d.pics.drop 1 ++ [d.newPic] }
def CS.stepOp (c : CS) : CS := if (c.level + 1) % 4 = 0 then ({ c with level := c.level + 1 } : CS).endOp else { c with level := c.level + 1 }

/-! ### sums -/
structure CS.Inv (c : CS) : Prop where
  p : c.p.Ok
  s : c.s.Ok
  reg : ∀ k : Int, 0 ≤ k → k < 3 → c.s.is k = true
  bal : c.p.sum + c.s.total = c.p.supply
  known : ∀ x ∈ c.k.L, ownB x.1 = true ∧ (0 ≤ x.2.b ∧ x.2.b < 3) ∧ 0 ≤ x.2.n
  done : c.k.done ≤ c.k.L.length
  b0 : 0 ≤ c.bonus
  b1 : c.bonus ≤ 5000
  three : c.pics.length = 3
  pic : ∀ l ∈ c.pics, l.length = 3 ∧ (∀ x ∈ l, 0 ≤ x ∧ x ≤ 1073741824) ∧ 1 ≤ l.sum
  cy : 0 ≤ c.cycle
  lv : 0 ≤ c.level

theorem SS.pool_reg {s : SS} {k : Int} (h : s.is k = true) : ∃ q, s.pool k = some q := by
  unfold SS.is at h
  cases hp : s.pool k with
  | none => rw [hp] at h; cases h
  | some q => exact ⟨q, rfl⟩
theorem SS.is_setP' {s : SS} (h : s.Ok) {k : Int} {q r : QS} (hk : s.pool k = some q) {j : Int} (hj : s.is j = true) : (s.setP k r).is j = true := by
  have := h.lt hk; exact SS.is_setP h this.1 this.2 r hj
theorem SS.is_join {s : SS} (h : s.Ok) (o k n : Int) {j : Int} (hj : s.is j = true) : (s.joinOp o k n).2.is j = true := by
  unfold SS.joinOp
  cases hp : s.pool k with
  | none => exact hj
  | some q => exact SS.is_setP' h hp hj
theorem SS.is_add {s : SS} (h : s.Ok) (k n : Int) {j : Int} (hj : s.is j = true) : (s.addOp k n).2.is j = true := by
  unfold SS.addOp
  cases hp : s.pool k with
  | none => exact hj
  | some q => exact SS.is_setP' h hp hj
theorem SS.is_leave {s : SS} (h : s.Ok) (o k n c : Int) {j : Int} (hj : s.is j = true) : (s.leaveOp o k n c).2.is j = true := by
  unfold SS.leaveOp
  cases hp : s.pool k with
  | none => exact hj
  | some q =>
    simp only
    split
    · exact hj
    · split
      · exact hj
      · split
        · exact hj
        · exact SS.is_setP' h hp hj
theorem SS.is_free {s : SS} (o c : Int) {j : Int} (hj : s.is j = true) : (s.freeOp o c).2.2.is j = true := by
  unfold SS.freeOp
  split
  · exact hj
  · split <;> exact hj
theorem SS.is_slash {s : SS} (h : s.Ok) (k f p : Int) {j : Int} (hj : s.is j = true) : (s.slashOp k f p).2.2.is j = true := by
  unfold SS.slashOp
  cases hp : s.pool k with
  | none => exact hj
  | some q =>
    simp only
    split
    · exact hj
    · exact SS.is_setP' (r := (q.slashOp p).2.2) h hp hj

theorem SS.staked_bd {s : SS} (h : s.Ok) : 0 ≤ s.staked 0 ∧ 0 ≤ s.staked 1 ∧ 0 ≤ s.staked 2 ∧ s.staked 0 + s.staked 1 + s.staked 2 ≤ s.total := by
  have hw : 0 ≤ (s.W.map (·.q.total)).sum := by
    have : ∀ x ∈ s.W.map (·.q.total), 0 ≤ x := by
      intro x hx
      obtain ⟨y, hy, rfl⟩ := List.mem_map.1 hx
      exact (h.waits y hy).1.t0
    exact (sum_le_of_nonneg this 0).2.1
  have hp : ∀ o, o ∈ s.P → 0 ≤ optT o := fun o ho => by
    cases o with
    | none => simp [optT]
    | some q => exact (h.pools q ho).t0
  have h3 := h.three
  match hP : s.P, h3 with
  | [a, b, c], _ =>
    have ea : s.staked 0 = optT a := by unfold SS.staked SS.pool; simp [hP, optT]
    have eb : s.staked 1 = optT b := by unfold SS.staked SS.pool; simp [hP, optT]
    have ec : s.staked 2 = optT c := by unfold SS.staked SS.pool; simp [hP, optT]
    have h0 := hp a (by rw [hP]; simp); have h1 := hp b (by rw [hP]; simp); have h2 := hp c (by rw [hP]; simp)
    refine ⟨by rw [ea]; exact h0, by rw [eb]; exact h1, by rw [ec]; exact h2, ?_⟩
    unfold SS.total; rw [hP]; simp only [List.map_cons, List.map_nil, List.sum_cons, List.sum_nil, ea, eb, ec]; omega

theorem PS.out_sum {p : PS} (o n : Int) : ((p.outOp o n).1 = 0 → (p.outOp o n).2 = p.change o (-n) ∧ lookC o n = 0 ∧ n ≤ p.at o) ∧ ((p.outOp o n).1 ≠ 0 → (p.outOp o n).2 = p) := by
  unfold PS.outOp
  split
  · exact ⟨fun h => (by cases h), fun _ => rfl⟩
  · split
    · exact ⟨fun h => (by cases h), fun _ => rfl⟩
    · next h1 h2 => exact ⟨fun _ => ⟨rfl, Decidable.not_not.1 h1, by omega⟩, fun h => absurd rfl h⟩
theorem PS.in_sum {p : PS} (o n : Int) (h : lookC o n = 0) (h1 : n ≤ p.supply - p.sum) : p.inOp o n = (0, p.change o n) := by
  unfold PS.inOp; rw [if_neg (by simp [h]), if_neg (by omega)]
theorem PS.in_any {p : PS} (o n : Int) : (p.inOp o n).2.supply = p.supply ∧ (p.inOp o n).2.has.length = p.has.length := by
  unfold PS.inOp; repeat' split
  all_goals simp [PS.change]
theorem PS.move_sum {p : PS} (a b n : Int) : (p.moveOp a b n).2.supply = p.supply ∧ ((p.moveOp a b n).2.sum = p.sum ∨ p.supply < p.sum) := by
  unfold PS.moveOp
  split
  · exact ⟨rfl, .inl rfl⟩
  · split
    · next h => rw [(PS.out_sum (p := p) a n).2 h]; exact ⟨rfl, .inl rfl⟩
    · next hb h =>
      obtain ⟨h1, h2, h3⟩ := (PS.out_sum (p := p) a n).1 (Decidable.not_not.1 h)
      rw [h1]
      refine ⟨(PS.in_any _ _).1, ?_⟩
      by_cases hl : p.supply < p.sum
      · exact .inr hl
      · have hb' : lookC b n = 0 := Decidable.not_not.1 hb
        rw [PS.in_sum b n hb' (by simp [PS.change]; omega)]
        left; simp [PS.change]; omega

theorem CS.Inv.withP {c : CS} (h : c.Inv) {p : PS} (hp : p.Ok) (hb : p.sum + c.s.total = p.supply) : ({ c with p := p } : CS).Inv :=
  ⟨hp, h.s, h.reg, hb, h.known, h.done, h.b0, h.b1, h.three, h.pic, h.cy, h.lv⟩
theorem CS.Inv.withPS {c : CS} (h : c.Inv) {p : PS} {s : SS} (hp : p.Ok) (hs : s.Ok) (hr : ∀ k, c.s.is k = true → s.is k = true) (hb : p.sum + s.total = p.supply) : ({ c with p := p, s := s } : CS).Inv :=
  ⟨hp, hs, fun k h0 h3 => hr k (h.reg k h0 h3), hb, h.known, h.done, h.b0, h.b1, h.three, h.pic, h.cy, h.lv⟩

theorem CS.pay_inv {c : CS} (h : c.Inv) (a b n : Int) : ({ c with p := (c.p.moveOp a b n).2 } : CS).Inv ∧ (c.p.moveOp a b n).2.supply = c.p.supply := by
  obtain ⟨h1, h2⟩ := PS.move_sum (p := c.p) a b n
  have hle := h.p.le
  have hb := h.bal
  rcases h2 with h2 | h2
  · exact ⟨h.withP (PS.moveOp_ok h.p a b n) (by rw [h1, h2]; exact hb), h1⟩
  · omega
theorem CS.stake_inv {c : CS} (h : c.Inv) (o b n : Int) : (c.stakeOp o b n).2.Inv ∧ (c.stakeOp o b n).2.p.supply = c.p.supply := by
  have hb := h.bal
  obtain ⟨o1, o2⟩ := PS.out_sum (p := c.p) o n
  obtain ⟨j1, j2⟩ := SS.join_total h.s o b n
  have hjs := SS.joinOp_ok h.s o b n
  unfold CS.stakeOp
  split
  · exact ⟨h, rfl⟩
  · next hc =>
    obtain ⟨e1, e2, e3⟩ := o1 (Decidable.not_not.1 hc)
    have hok := PS.outOp_ok h.p o n
    rw [e1] at hok ⊢
    have hle := h.p.le
    obtain ⟨-, n0, -⟩ := lookC_zero.1 e2
    split
    · next hj =>
      have ei := PS.in_sum (p := c.p.change o (-n)) o n e2 (by simp [PS.change]; omega)
      have hok2 := PS.inOp_ok hok o n
      rw [ei] at hok2 ⊢
      exact ⟨h.withPS hok2 hjs (fun k hk => SS.is_join h.s o b n hk) (by rw [j2 hj]; simp [PS.change]; omega), rfl⟩
    · next hj =>
      exact ⟨h.withPS hok hjs (fun k hk => SS.is_join h.s o b n hk) (by rw [j1 (Decidable.not_not.1 hj)]; simp [PS.change]; omega), rfl⟩
theorem CS.unstake_inv {c : CS} (h : c.Inv) (o b n : Int) : ({ c with s := (c.s.leaveOp o b n c.cycle).2 } : CS).Inv :=
  h.withPS (p := c.p) h.p (SS.leaveOp_ok h.s o b n c.cycle) (fun k hk => SS.is_leave h.s o b n c.cycle hk) (by rw [SS.leave_total h.s]; exact h.bal)
theorem SS.free_owner {s : SS} {o c : Int} (h : (s.freeOp o c).2.1 = 0) : ownB o = true := by
  unfold SS.freeOp at h
  split at h
  · cases h
  · next hn => cases ho : ownB o with
    | true => rfl
    | false => exact absurd (.inr ho) hn
theorem CS.free_inv {c : CS} (h : c.Inv) (o : Int) : (c.freeOp o).2.2.Inv ∧ (c.freeOp o).2.2.p.supply = c.p.supply ∧ ((c.s.freeOp o c.cycle).2.1 = 0 → (c.p.inOp o (c.s.freeOp o c.cycle).1).1 = 0) := by
  have hb := h.bal
  obtain ⟨f1, f2, f3⟩ := SS.free_total h.s o c.cycle
  have fs := SS.freeOp_ok h.s o c.cycle
  have t0 := fs.total_bd.1
  have hm := h.p.most
  have s0 := h.p.sum_bd
  unfold CS.freeOp
  split
  · next hc =>
    refine ⟨h.withPS (p := c.p) h.p fs (fun k hk => SS.is_free o c.cycle hk) ?_, rfl, fun h => absurd h hc⟩
    rw [f1, f3 hc]; omega
  · next hc =>
    have ho := SS.free_owner (Decidable.not_not.1 hc)
    have hl : lookC o (c.s.freeOp o c.cycle).1 = 0 := lookC_zero.2 ⟨ho, f2, by omega⟩
    have ei := PS.in_sum (p := c.p) o _ hl (by omega)
    have hok := PS.inOp_ok h.p o (c.s.freeOp o c.cycle).1
    rw [ei] at hok ⊢
    exact ⟨h.withPS hok fs (fun k hk => SS.is_free o c.cycle hk) (by simp only [PS.change]; omega), rfl, fun _ => rfl⟩
theorem CS.accuse_inv {c : CS} (h : c.Inv) (o : Int) (e : EV) : ({ c with k := (c.k.accuse o e c.cycle).2 } : CS).Inv := by
  refine ⟨h.p, h.s, h.reg, h.bal, fun x hx => ?_, ?_, h.b0, h.b1, h.three, h.pic, h.cy, h.lv⟩
  · unfold KS.accuse at hx
    split at hx
    · exact h.known x hx
    · next hc =>
      rcases List.mem_append.1 hx with hx | hx
      · exact h.known x hx
      · obtain rfl := List.mem_singleton.1 hx
        unfold KS.code at hc
        split at hc
        · simp at hc
        · next hn =>
          have ho : ownB o = true := by cases hob : ownB o with
            | true => rfl
            | false => exact absurd (.inl hob) hn
          exact ⟨ho, by simp only; omega, by simp only; omega⟩
  · have := h.done
    unfold KS.accuse
    split
    · exact this
    · simp; omega

theorem CS.ratio_bd {c : CS} (h : c.Inv) : 0 ≤ c.ratio ∧ c.ratio ≤ 1000000 := by
  unfold CS.ratio
  by_cases hr : ratioOk c.stakedAll c.p.supply
  · exact ratio_in hr
  · unfold ratioN; rw [if_neg hr]; omega
theorem CS.issues_bd {c : CS} (h : c.Inv) : 0 ≤ c.issues ∧ c.issues ≤ 1125899906842624 := by
  unfold CS.issues
  by_cases hr : rewardOk c.p.supply (rateN c.ratio c.bonus)
  · have := reward_in hr; have := h.p.most; omega
  · unfold rewardN; rw [if_neg hr]; omega
theorem CS.reward_inv {c : CS} (h : c.Inv) (b : Int) : (c.reward b).2.Inv ∧ 0 ≤ (c.reward b).1 ∧ (c.reward b).2.p.supply = c.p.supply + (c.reward b).1 ∧ (c.reward b).2.cycle = c.cycle ∧ (c.reward b).2.level = c.level := by
  have hb := h.bal
  have hi := CS.issues_bd h
  obtain ⟨a1, a2⟩ := SS.add_total h.s b c.issues
  have aok := SS.addOp_ok h.s b c.issues
  have hle := h.p.le
  have s0 := h.p.sum_bd
  unfold CS.reward
  split
  · exact ⟨h, by simp, by simp, rfl, rfl⟩
  · next hm =>
    split
    · next ha => exact ⟨h.withPS (p := c.p) h.p aok (fun k hk => SS.is_add h.s b c.issues hk) (by rw [a2 ha]; exact hb), by simp, by simp, rfl, rfl⟩
    · next ha =>
      have hg : c.p.growOp c.issues = (0, c.p.grow c.issues) := by
        unfold PS.growOp; rw [if_pos]; simp only [Bool.and_eq_true, amtB_iff]; omega
      have hok := PS.growOp_ok h.p c.issues
      rw [hg] at hok ⊢
      rw [if_neg (by simp)]
      exact ⟨h.withPS hok aok (fun k hk => SS.is_add h.s b c.issues hk) (by rw [a1 (Decidable.not_not.1 ha)]; simp only [PS.grow]; omega), hi.1, rfl, rfl, rfl⟩

theorem pct_in (n : Int) : 0 ≤ pct n ∧ pct n ≤ 100 := by unfold pct; split <;> omega
theorem CS.judge_inv {c : CS} (h : c.Inv) {x : Int × EV} (ho : ownB x.1 = true) : (c.judge x).Inv ∧ (c.judge x).p.supply ≤ c.p.supply := by
  have hb := h.bal
  obtain ⟨l1, l2, -⟩ := SS.slash_total h.s x.2.b x.2.c (pct x.2.n)
  have ss := SS.slashOp_ok h.s x.2.b x.2.c (pct x.2.n)
  have hr := fun k hk => SS.is_slash h.s x.2.b x.2.c (pct x.2.n) (j := k) hk
  have t0 := ss.total_bd.1
  have hm := h.p.most
  have s0 := h.p.sum_bd
  unfold CS.judge
  generalize c.s.slashOp x.2.b x.2.c (pct x.2.n) = r at *
  obtain ⟨lost, code, st⟩ := r
  simp only at *
  have hl : lookC x.1 (lost / 7) = 0 := lookC_zero.2 ⟨ho, by omega, by omega⟩
  have ei := PS.in_sum (p := c.p) x.1 (lost / 7) hl (by omega)
  have ok1 := PS.inOp_ok h.p x.1 (lost / 7)
  rw [ei] at ok1 ⊢
  have eb : (c.p.change x.1 (lost / 7)).burnOp (lost - lost / 7) = (0, (c.p.change x.1 (lost / 7)).grow (-(lost - lost / 7))) := by
    unfold PS.burnOp; rw [if_neg (by rw [amtB_false]; omega), if_neg (by simp only [PS.change]; omega)]
  have ok2 := PS.burnOp_ok ok1 (lost - lost / 7)
  rw [eb] at ok2 ⊢
  exact ⟨h.withPS ok2 ss hr (by simp only [PS.grow, PS.change]; omega), by simp only [PS.grow, PS.change]; omega⟩
theorem CS.judge_keeps (c : CS) (x : Int × EV) : (c.judge x).k = c.k ∧ (c.judge x).cycle = c.cycle ∧ (c.judge x).level = c.level ∧ (c.judge x).bonus = c.bonus ∧ (c.judge x).pics = c.pics := ⟨rfl, rfl, rfl, rfl, rfl⟩
theorem CS.judges_inv : ∀ (l : List (Int × EV)) {c : CS}, c.Inv → (∀ x ∈ l, ownB x.1 = true) → (l.foldl CS.judge c).Inv ∧ (l.foldl CS.judge c).p.supply ≤ c.p.supply ∧ (l.foldl CS.judge c).k = c.k ∧ (l.foldl CS.judge c).cycle = c.cycle ∧ (l.foldl CS.judge c).level = c.level ∧ (l.foldl CS.judge c).bonus = c.bonus ∧ (l.foldl CS.judge c).pics = c.pics
  | [], c, h, _ => ⟨h, Int.le_refl _, rfl, rfl, rfl, rfl, rfl⟩
  | x :: l, c, h, hx => by
    obtain ⟨h1, h2⟩ := CS.judge_inv h (hx x (by simp))
    obtain ⟨a, b, d1, d2, d3, d4, d5⟩ := CS.judges_inv l h1 (fun y hy => hx y (by simp [hy]))
    exact ⟨a, by simp only [List.foldl_cons]; omega, d1, d2, d3, d4, d5⟩

theorem pic1_bd (n : Int) (h : 0 ≤ n) : 0 ≤ pic1 n ∧ pic1 n ≤ 1073741824 := by unfold pic1; repeat' split
                                                                               all_goals omega
theorem SS.picture_ok {s : SS} (h : s.Ok) : s.picture.length = 3 ∧ (∀ x ∈ s.picture, 0 ≤ x ∧ x ≤ 1073741824) ∧ (s.picture ≠ [0, 0, 0] → 1 ≤ s.picture.sum) := by
  obtain ⟨h0, h1, h2, _⟩ := SS.staked_bd h
  have p0 := pic1_bd _ h0; have p1 := pic1_bd _ h1; have p2 := pic1_bd _ h2
  unfold SS.picture
  generalize pic1 (s.staked 0) = a at *
  generalize pic1 (s.staked 1) = b at *
  generalize pic1 (s.staked 2) = c at *
  refine ⟨rfl, fun x hx => ?_, fun hne => ?_⟩
  · simp at hx; rcases hx with rfl | rfl | rfl <;> assumption
  · simp only [List.sum_cons, List.sum_nil]
    by_cases ha : a = 0
    · by_cases hb : b = 0
      · by_cases hc : c = 0
        · exact absurd (by rw [ha, hb, hc]) hne
        · omega
      · omega
    · omega
theorem getD_mem {α : Type} (l : List α) (i : Nat) (d : α) (h : i < l.length) : l.getD i d ∈ l := by
  rw [List.getD_eq_getElem?_getD, List.getElem?_eq_getElem h]; exact List.getElem_mem h

theorem CS.end_inv {c : CS} (h : c.Inv) : c.endOp.Inv ∧ c.endOp.p.supply ≤ c.p.supply ∧ c.endOp.cycle = c.cycle + 1 ∧ c.endOp.level = c.level := by
  have hd : ∀ x ∈ c.k.due, ownB x.1 = true := fun x hx => (h.known x (List.mem_of_mem_drop hx)).1
  obtain ⟨a, b, d1, d2, d3, d4, d5⟩ := CS.judges_inv c.k.due h hd
  have e : c.judged = c.k.due.foldl CS.judge c := rfl
  have hbn : 0 ≤ bonusN c.judged.bonus c.judged.ratio ∧ bonusN c.judged.bonus c.judged.ratio ≤ 5000 := by
    unfold bonusN
    have := a.b0; have := a.b1
    rw [← e] at *
    repeat' split
    all_goals omega
  refine ⟨⟨a.p, a.s, a.reg, a.bal, ?_, Nat.le_refl _, hbn.1, hbn.2, ?_, ?_, by have := a.cy; show 0 ≤ c.judged.cycle + 1; rw [e]; omega, a.lv⟩, b, by show c.judged.cycle + 1 = _; rw [e, d2], d3⟩
  · exact h.known
  · show (c.judged.pics.drop 1 ++ [c.judged.newPic]).length = 3
    rw [e]; simp [a.three]
  · intro l hl
    have hl : l ∈ c.judged.pics.drop 1 ++ [c.judged.newPic] := hl
    rcases List.mem_append.1 hl with hl | hl
    · exact a.pic l (List.mem_of_mem_drop hl)
    · obtain rfl := List.mem_singleton.1 hl
      unfold CS.newPic
      rw [e]
      split
      · exact a.pic _ (getD_mem _ _ _ (by rw [a.three]; decide))
      · next hne => obtain ⟨q1, q2, q3⟩ := SS.picture_ok a.s; exact ⟨q1, q2, q3 hne⟩
theorem CS.step_inv {c : CS} (h : c.Inv) : c.stepOp.Inv ∧ c.stepOp.p.supply ≤ c.p.supply ∧ (c.stepOp.cycle = c.cycle → c.stepOp.p.supply = c.p.supply) ∧ c.stepOp.level = c.level + 1 ∧ c.stepOp.cycle ≤ c.cycle + 1 := by
  have hl : ({ c with level := c.level + 1 } : CS).Inv := ⟨h.p, h.s, h.reg, h.bal, h.known, h.done, h.b0, h.b1, h.three, h.pic, h.cy, by have := h.lv; show 0 ≤ c.level + 1; omega⟩
  unfold CS.stepOp
  split
  · obtain ⟨a, b, d1, d2⟩ := CS.end_inv hl
    exact ⟨a, b, fun hc => by rw [d1] at hc; simp only at hc; omega, d2, by rw [d1]; exact Int.le_refl _⟩
  · exact ⟨hl, Int.le_refl _, fun _ => rfl, rfl, by simp only; omega⟩
end Go.Proofs.YtajnfkmkombajabGreatDoor
namespace Go.Proofs.YtajnfkmkombajabGreatDoor
open Go.RowKit Go.Maps

theorem laidOut : laidOutB Tryz.prog = true := by kernel_rfl
theorem keyE : Keyed Tryz.prog 100 :=
  Keyed.of_law (deep_law_laid laidOut (m := 2) (by omega) (of_decide_eq_true (by kernel_rfl)) (by kernel_rfl) (by rw [Tryz.underlying100]))
theorem zeroB (w : World) : (zeroValue 4).run Tryz.prog w = .ok (.bool false) w := by kernel_rfl

def EV.wf (e : EV) : Prop := (Lit.int .i64 e.b).wf = true ∧ (Lit.int .i64 e.c).wf = true ∧ (Lit.int .i64 e.n).wf = true
def evV (e : EV) : Value := .agg #[.int .i64 e.b, .int .i64 e.c, .int .i64 e.n]
def evK (e : EV) : Lit := .string (keyBytes [.int .i64 e.b, .int .i64 e.c, .int .i64 e.n])

theorem keyOf_ev {e : EV} (h : e.wf) : keyOf Tryz.prog 100 (evV e) = some (evK e) := by
  obtain ⟨m, hm⟩ : ∃ m, Tryz.prog.types.size = m + 1 := Nat.exists_eq_succ_of_ne_zero (by have : 0 < Tryz.prog.types.size := of_decide_eq_true (by kernel_rfl); omega)
  have hkt : Tryz.prog.keyType 100 = true := by kernel_rfl
  have hce : Tryz.prog.cellsOf 100 = 3 := by kernel_rfl
  have hci : Tryz.prog.cellsOf 3 = 1 := by kernel_rfl
  have hu := Tryz.underlying100
  have hui := Tryz.underlying3
  obtain ⟨h1, h2, h3⟩ := h
  unfold keyOf evV evK
  simp only [hu]
  rw [if_pos (by simp [hkt, Value.formed, hu, hce]), hm]
  unfold Program.keyLits
  simp only [hu, Value.cells]
  simp [hce, hci, Program.keyLits, hui, h1, h2, h3]
theorem evK_inj {e f : EV} (he : e.wf) (hf : f.wf) (h : evK e = evK f) : e = f := by
  have h1 := keyOf_ev he
  have h2 := keyOf_ev hf
  rw [← h] at h2
  have := keyE.inj h1 h2
  simp only [evV, Value.agg.injEq, Array.mk.injEq, List.cons.injEq, Value.int.injEq, true_and, and_true] at this
  obtain ⟨a, b, c⟩ := this
  cases e; cases f; simp_all

section
variable {H : Type} {P : Program} {k e t : TypeId} {w : World} {b n : Nat} {D : DataW H}
theorem plainElem_bool_inv (he : P.underlying e = some .bool) {v : Value} {z : DataW H × List MemPlace} (h : plainElem P e v = some z) : ∃ x, v = .bool x ∧ z = (.lit (.bool x), []) := by
  unfold plainElem at h
  rw [he] at h
  cases v <;> simp at h
  exact ⟨_, rfl, h.symm⟩
theorem lookup_bool (h : w.ownsMap P k (plainElem P e) b n D) (K : Keyed P k) (ht : P.underlying t = some (.map k e)) (he : P.underlying e = some .bool) (hz : (zeroValue e).run P w = .ok (.bool false) w)
    {key : Value} {kl : Lit} (hkey : keyOf P k key = some kl) : ∃ c, (Instr.lookup t (.map (some b)) key false).run P w = .ok (.bool c) w ∧ D.atKey kl (.lit (.bool false)) = .lit (.bool c) := by
  obtain ⟨v, ps, hrun, hv⟩ := h.lookup K ht hz (plainElem_bool he false) hkey
  obtain ⟨c, rfl, hc⟩ := plainElem_bool_inv he hv
  simp only [Prod.mk.injEq] at hc
  exact ⟨c, hrun, hc.1⟩
theorem wpList_lookup_own_bool {ops : Array Oper} {rest : List Oper} {o : Oper} {a : Act} {Q : Exit → Act → World → Prop}
    (hg : o.guard = none) (m x : Operand) (t : TypeId) (hop : o.op = Op.lookup t m x false) (K : Keyed P k) (ht : P.underlying t = some (.map k e)) (he : P.underlying e = some .bool) (hz : (zeroValue e).run P w = .ok (.bool false) w) (b n : Nat) (D : DataW H)
    (hm : a.eval m = .map (some b)) (hown : w.ownsMap P k (plainElem P e) b n D) (key : Value) (kl : Lit) (hx : a.eval x = key) (hkey : keyOf P k key = some kl) (c : Bool) (hc : D.atKey kl (.lit (.bool false)) = .lit (.bool c))
    (hK : wpList P ops Q rest (a.put o.dst (.bool c)) w) : wpList P ops Q (o :: rest) a w := by
  refine wpList_plain hg fun K' hK' => ?_
  obtain ⟨c', hrun, hat⟩ := lookup_bool hown K ht he hz hkey
  have hcc : c' = c := by rw [hc] at hat; simpa using hat.symm
  subst hcc
  unfold Oper.wp
  simp [execOp, hop, hm, hx, hrun, Result.andThen]
  exact hK' _ _ hK
end
end Go.Proofs.YtajnfkmkombajabGreatDoor
namespace Go.Proofs.YtajnfkmkombajabGreatDoor
open Go.RowKit

/-- an act on a chain -/
structure ActC where
  kind : ByteArray
  o : Int
  t : Int
  b : Int
  n : Int
  round : Int
  e : EV
def ActC.enc (a : ActC) : List Value := [.string a.kind, .int .i64 a.o, .int .i64 a.t, .int .i64 a.b, .int .i64 a.n, .int .i64 a.round, .int .i64 a.e.b, .int .i64 a.e.c, .int .i64 a.e.n]
def ActC.wf (a : ActC) : Prop := a.kind.size ≤ maxLen ∧ (Lit.int .i64 a.o).wf = true ∧ (Lit.int .i64 a.t).wf = true ∧ (Lit.int .i64 a.b).wf = true ∧ (Lit.int .i64 a.n).wf = true ∧ (Lit.int .i64 a.round).wf = true ∧ a.e.wf

end Go.Proofs.YtajnfkmkombajabGreatDoor
namespace Go.Proofs.YtajnfkmkombajabGreatDoor
open Go.RowKit

/-- 2^32 -/
def B32 : Nat := 4294967296
theorem B32_eq : B32 = 4294967296 := rfl

/-- What one digit's estimate keeps: at most one too great at the beginning; never too small. -/
structure KInv (y1 y0 u u1 q r : Nat) : Prop where
  sum : q * y1 + r = u
  ge : (u * B32 + u1) / (y1 * B32 + y0) ≤ q
  le : q ≤ B32 + 1

theorem k_start {y1 y0 u u1 : Nat} (h1 : 2147483648 ≤ y1) (h0 : y0 < B32) (hu : u < y1 * B32 + y0) (hu1 : u1 < B32) : KInv y1 y0 u u1 (u / y1) (u % y1) := by
  have hpos : 0 < y1 := by omega
  refine ⟨by rw [Nat.mul_comm]; exact Nat.div_add_mod u y1, ?_, ?_⟩
  · -- (u B + u1) / (y1 B + y0) ≤ (u B + u1) / (y1 B) = u / y1
    have hB : (0 : Nat) < B32 := by decide
    have e1 : (u * B32 + u1) / (y1 * B32) = u / y1 := by
      rw [Nat.mul_comm y1 B32, ← Nat.div_div_eq_div_mul, Nat.mul_comm u B32, Nat.mul_add_div hB, Nat.div_eq_of_lt hu1, Nat.add_zero]
    rw [← e1]
    exact Nat.div_le_div_left (Nat.le_add_right _ _) (Nat.mul_pos hpos hB)
  · have : u / y1 < B32 + 2 := by
      rw [Nat.div_lt_iff_lt_mul hpos]
      have e : (B32 + 2) * y1 = y1 * B32 + 2 * y1 := by rw [Nat.add_mul, Nat.mul_comm B32 y1]
      rw [e]
      have : y0 < 2 * y1 := by unfold B32 at h0; omega
      omega
    omega

theorem k_q_lt {y1 y0 u u1 : Nat} (hpos : 0 < y1 * B32 + y0) (hu : u < y1 * B32 + y0) (hu1 : u1 < B32) : (u * B32 + u1) / (y1 * B32 + y0) < B32 := by
  rw [Nat.div_lt_iff_lt_mul hpos]
  have : (u + 1) * B32 ≤ (y1 * B32 + y0) * B32 := Nat.mul_le_mul_right _ hu
  rw [Nat.add_mul] at this
  rw [Nat.mul_comm B32]
  omega

theorem k_mul {y1 y0 u q r : Nat} (h : q * y1 + r = u) : q * (y1 * B32 + y0) + r * B32 = u * B32 + q * y0 := by
  rw [Nat.mul_add, ← h, Nat.add_mul, Nat.mul_assoc]; omega

/-- the test says yes: one less is still not too small -/
theorem k_step {y1 y0 u u1 q r : Nat} (h1 : 2147483648 ≤ y1) (hu : u < y1 * B32 + y0) (hu1 : u1 < B32) (I : KInv y1 y0 u u1 q r) (ht : B32 ≤ q ∨ B32 * r + u1 < q * y0) : 1 ≤ q ∧ KInv y1 y0 u u1 (q - 1) (r + y1) ∧ q - 1 ≤ B32 := by
  have hpos : 0 < y1 * B32 + y0 := by unfold B32; omega
  have hlt : (u * B32 + u1) / (y1 * B32 + y0) < q := by
    rcases ht with ht | ht
    · exact Nat.lt_of_lt_of_le (k_q_lt hpos hu hu1) ht
    · rw [Nat.div_lt_iff_lt_mul hpos]
      have := k_mul (y0 := y0) I.sum
      rw [Nat.mul_comm r B32] at this
      omega
  have hq : 1 ≤ q := Nat.lt_of_le_of_lt (Nat.zero_le _) hlt
  have hle := I.le
  refine ⟨hq, ⟨?_, Nat.le_sub_one_of_lt hlt, by omega⟩, by omega⟩
  have := I.sum
  rw [Nat.sub_mul, Nat.one_mul]
  have : y1 ≤ q * y1 := Nat.le_mul_of_pos_left y1 hq
  omega

/-- the test says no: it is the digit -/
theorem k_end {y1 y0 u u1 q r : Nat} (hpos : 0 < y1 * B32 + y0) (I : KInv y1 y0 u u1 q r) (h : q * y0 ≤ B32 * r + u1) : q = (u * B32 + u1) / (y1 * B32 + y0) := by
  refine Nat.le_antisymm ?_ I.ge
  rw [Nat.le_div_iff_mul_le hpos]
  have := k_mul (y0 := y0) I.sum
  rw [Nat.mul_comm r B32] at this
  omega

/-- the rest is great: it is the digit -/
theorem k_break {y1 y0 u u1 q r : Nat} (hpos : 0 < y1 * B32 + y0) (h0 : y0 < B32) (hq : q ≤ B32) (hr : B32 ≤ r) (I : KInv y1 y0 u u1 q r) : q = (u * B32 + u1) / (y1 * B32 + y0) := by
  refine k_end hpos I ?_
  have a : q * y0 ≤ B32 * B32 := Nat.mul_le_mul hq (Nat.le_of_lt h0)
  have b : B32 * B32 ≤ B32 * r := Nat.mul_le_mul_left _ hr
  omega

/-- two digits one after the other are the quotient -/
theorem k_two {y u u1 u0 : Nat} (hy : 0 < y) :
    (u * B32 + u1) / y * B32 + ((u * B32 + u1) % y * B32 + u0) / y = ((u * B32 + u1) * B32 + u0) / y ∧ ((u * B32 + u1) % y * B32 + u0) % y = ((u * B32 + u1) * B32 + u0) % y := by
  generalize u * B32 + u1 = v
  have e : v * B32 + u0 = v / y * B32 * y + (v % y * B32 + u0) := by
    have h2 : v * B32 = (v / y * y + v % y) * B32 := by rw [Nat.div_add_mod']
    rw [h2, Nat.add_mul, Nat.mul_right_comm]
    omega
  constructor
  · rw [e, Nat.add_comm (v / y * B32 * y), Nat.add_mul_div_right _ _ hy, Nat.add_comm]
  · rw [e, Nat.add_comm (v / y * B32 * y), Nat.add_mul_mod_self_right]
theorem bitLen_bounds : ∀ (n x : Nat), x < 2 ^ n → n ≤ 64 → x ≠ 0 → x < 2 ^ Lib.bitLen x ∧ 2 ^ Lib.bitLen x ≤ 2 * x ∧ 1 ≤ Lib.bitLen x ∧ Lib.bitLen x ≤ n := by
  intro n
  induction n with
  | zero => intro x h _ h0; omega
  | succ n ih =>
    intro x h hn h0
    have h64 : x < 2 ^ 64 := Nat.lt_of_lt_of_le h (Nat.pow_le_pow_right (by decide) hn)
    rw [Lib.bitLen_half x h0 h64]
    by_cases h1 : x / 2 = 0
    · have : x = 1 := by omega
      subst this
      exact ⟨by decide, by decide, by decide, by have : Lib.bitLen (1 / 2) = 0 := by decide
                                                 omega⟩
    · obtain ⟨a, b, c, d⟩ := ih (x / 2) (by rw [Nat.pow_succ] at h; omega) (by omega) h1
      rw [Nat.add_comm 1, Nat.pow_succ]
      exact ⟨by omega, by omega, by omega, by omega⟩

/-- What the digits of hi, lo over y are, s places up: the numbers that math/bits.Div64 reckons ahead of its loops. -/
structure DivPrep (hi lo y s Y y1 y0 h' l' u t u1 u0 : Nat) : Prop where
  a1 : IntKind.u64.wrap ((y : Int) * 2 ^ s) = (Y : Int)
  a2 : (Y : Int) / 4294967296 = (y1 : Int)
  a3 : bits BinOp.and IntKind.u64 (Y : Int) 4294967295 = (y0 : Int)
  a4 : IntKind.u64.wrap ((hi : Int) * 2 ^ s) = (h' : Int)
  a5 : (lo : Int) / 2 ^ (64 - s) = (l' : Int)
  a6 : bits BinOp.or IntKind.u64 (h' : Int) (l' : Int) = (u : Int)
  a7 : IntKind.u64.wrap ((lo : Int) * 2 ^ s) = (t : Int)
  a8 : (t : Int) / 4294967296 = (u1 : Int)
  a9 : bits BinOp.and IntKind.u64 (t : Int) 4294967295 = (u0 : Int)
  y0lt : y0 < B32
  y1ge : 2147483648 ≤ y1
  y1lt : y1 < B32
  Yeq : Y = y1 * B32 + y0
  ult : u < Y
  u1lt : u1 < B32
  u0lt : u0 < B32
  Ys : Y = y * 2 ^ s
  all : (u * B32 + u1) * B32 + u0 = (hi * 18446744073709551616 + lo) * 2 ^ s

theorem and32 (x : Nat) (hx : x < 18446744073709551616) : bits BinOp.and IntKind.u64 (x : Int) 4294967295 = ((x % B32 : Nat) : Int) := by
  have h := bits_mask .u64 64 (by decide) (fun n h0 h1 => by rw [IntKind.wrap_u64]; omega) 32 (by decide) (x : Int) (by omega) (by omega)
  have e : ((x % B32 : Nat) : Int) = (x : Int) % 2 ^ 32 := by unfold B32; omega
  rw [e]; exact h

theorem wrap_nat (x : Nat) (hx : x < 18446744073709551616) : IntKind.u64.wrap (x : Int) = (x : Int) := by rw [IntKind.wrap_u64]; omega

theorem div_prep (hi lo y s : Nat) (hs : Lib.bitLen y + s = 64) (hlo : lo < 18446744073709551616) (hy : hi < y) (hyM : y ≤ 1125899906842624) :
    DivPrep hi lo y s (y * 2 ^ s) (y * 2 ^ s / B32) (y * 2 ^ s % B32) (hi * 2 ^ s) (lo / 2 ^ (64 - s)) (hi * 2 ^ s + lo / 2 ^ (64 - s)) (lo % 2 ^ (64 - s) * 2 ^ s) (lo % 2 ^ (64 - s) * 2 ^ s / B32) (lo % 2 ^ (64 - s) * 2 ^ s % B32) := by
  obtain ⟨b1, b2, b3, b4⟩ := bitLen_bounds 51 y (by omega) (by decide) (by omega)
  have hcd : 2 ^ (64 - s) * 2 ^ s = 18446744073709551616 := by rw [← Nat.pow_add, Nat.sub_add_cancel (by omega)]
  have hdl : 2 ^ Lib.bitLen y = 2 ^ (64 - s) := by rw [show Lib.bitLen y = 64 - s by omega]
  rw [hdl] at b1 b2
  have hc : 0 < 2 ^ s := Nat.pow_pos (by decide)
  have hd : 0 < 2 ^ (64 - s) := Nat.pow_pos (by decide)
  have hcast : ((2 : Int) ^ s) = ((2 ^ s : Nat) : Int) := by rw [Int.natCast_pow]; rfl
  have hdast : ((2 : Int) ^ (64 - s)) = ((2 ^ (64 - s) : Nat) : Int) := by rw [Int.natCast_pow]; rfl
  have hp2 : (2 : Nat) ^ s = 2 ^ s := rfl
  generalize hcv : 2 ^ s = c at *
  generalize hdv : 2 ^ (64 - s) = d at *
  have hYlt : y * c < 18446744073709551616 := by rw [← hcd]; exact Nat.mul_lt_mul_of_pos_right b1 hc
  have hYge : 9223372036854775808 ≤ y * c := by
    have : d * c ≤ 2 * y * c := Nat.mul_le_mul_right _ b2
    rw [hcd, Nat.mul_assoc] at this; omega
  have hhc : hi * c + c ≤ y * c := by
    have : (hi + 1) * c ≤ y * c := Nat.mul_le_mul_right _ hy
    rw [Nat.add_mul, Nat.one_mul] at this; exact this
  have hl : lo / d < c := by rw [Nat.div_lt_iff_lt_mul hd, Nat.mul_comm, hcd]; exact hlo
  have hm : lo % d < d := Nat.mod_lt _ hd
  have ht : lo % d * c < 18446744073709551616 := by rw [← hcd]; exact Nat.mul_lt_mul_of_pos_right hm hc
  have hdm : lo / d * d + lo % d = lo := Nat.div_add_mod' lo d
  have hlc : lo * c = lo / d * 18446744073709551616 + lo % d * c := by
    have : lo * c = (lo / d * d + lo % d) * c := by rw [hdm]
    rw [this, Nat.add_mul, Nat.mul_assoc, hcd]
  refine ⟨?_, ?_, and32 _ hYlt, ?_, ?_, ?_, ?_, ?_, and32 _ ht, Nat.mod_lt _ (by decide), ?_, ?_, ?_, by omega, ?_, Nat.mod_lt _ (by decide), by rw [hcv], ?_⟩
  · rw [hcast, ← Int.natCast_mul]; exact wrap_nat _ hYlt
  · unfold B32; omega
  · rw [hcast, ← Int.natCast_mul]; exact wrap_nat _ (by omega)
  · rw [hdast, ← Int.natCast_ediv]
  · have hor : hi * c + lo / d = hi * c ||| lo / d := by
      rw [Nat.mul_comm hi, ← hcv]
      exact Nat.two_pow_add_eq_or_of_lt (by rw [hcv]; exact hl) hi
    have := bits_nat .u64 64 (by decide) (fun n h0 h1 => by rw [IntKind.wrap_u64]; omega) (hi * c) (lo / d) (by omega) (by omega)
    rw [this.2, hor]
  · rw [hcast, ← Int.natCast_mul, IntKind.wrap_u64, hlc]; omega
  · unfold B32; omega
  · unfold B32; omega
  · unfold B32; omega
  · unfold B32; omega
  · unfold B32; omega
  · have e : (hi * c + lo / d) * B32 * B32 + lo % d * c = (hi * 18446744073709551616 + lo) * c := by
      rw [Nat.add_mul (hi * 18446744073709551616), hlc, Nat.mul_right_comm hi, Nat.mul_assoc (hi * c + lo / d)]
      rw [show B32 * B32 = 18446744073709551616 from by decide, Nat.add_mul]; omega
    rw [hcv, ← e]
    have := Nat.div_add_mod' (lo % d * c) B32
    rw [Nat.add_mul]; omega
theorem u64_mul' (a b : Nat) (h : a * b < 18446744073709551616) : IntKind.u64.wrap ((a : Int) * (b : Int)) = (a : Int) * (b : Int) := by
  rw [← Int.natCast_mul]; exact wrap_nat _ h
theorem cast_lt {q y0 r u1 : Nat} (h : (4294967296 : Int) * (r : Int) + (u1 : Int) < (q : Int) * (y0 : Int)) : B32 * r + u1 < q * y0 := by
  rw [← Int.natCast_mul] at h; unfold B32; omega
theorem cast_le {q y0 r u1 : Nat} (h : ¬ (4294967296 : Int) * (r : Int) + (u1 : Int) < (q : Int) * (y0 : Int)) : q * y0 ≤ B32 * r + u1 := by
  rw [← Int.natCast_mul] at h; unfold B32; omega
/-- their measure -/
def kmeas (a : Value) : Nat := (intOf a).toNat
theorem kmeas_lt {q : Nat} (h : 1 ≤ (q : Int)) : kmeas (.int .u64 ((q : Int) - 1)) < kmeas (.int .u64 q) := by
  unfold kmeas; simp only [intOf]; omega
/-- the relation of the two loops -/
def KRel (y1 y0 u u1 : Nat) (a b : Value) : Prop := ∃ q r : Nat, KInv y1 y0 u u1 q r ∧ (r : Int) < 4294967296 ∧ a = .int .u64 q ∧ b = .int .u64 r

theorem u64_mul (a b : Nat) (h : a * b < 18446744073709551616) : IntKind.u64.wrap ((a : Int) * (b : Int)) = ((a * b : Nat) : Int) := by
  rw [← Int.natCast_mul]; exact wrap_nat _ h
theorem krel_next {y1 y0 u u1 q r : Nat} (I : KInv y1 y0 u u1 (q - 1) (r + y1)) (h : ¬ (4294967296 : Int) ≤ (r : Int) + (y1 : Int)) (hq : 1 ≤ (q : Int)) :
    KRel y1 y0 u u1 (.int .u64 ((q : Int) - 1)) (.int .u64 ((r : Int) + (y1 : Int))) ∧ kmeas (.int .u64 ((q : Int) - 1)) < kmeas (.int .u64 q) :=
  ⟨⟨q - 1, r + y1, I, by omega, by congr 1; omega, by congr 1⟩, kmeas_lt hq⟩

/-- what is left of a digit's round, out of the numbers that have gone round -/
theorem u64_left (u u1 q Y : Nat) (hY : Y < 18446744073709551616) (hY0 : 0 < Y) (hq : q = (u * B32 + u1) / Y) :
    IntKind.u64.wrap (IntKind.u64.wrap (IntKind.u64.wrap ((u : Int) * 4294967296) + (u1 : Int)) - IntKind.u64.wrap ((q : Int) * (Y : Int))) = (((u * B32 + u1) % Y : Nat) : Int) := by
  have h1 := Nat.div_add_mod' (u * B32 + u1) Y
  rw [← hq] at h1
  have h2 : (u * B32 + u1) % Y < Y := Nat.mod_lt _ hY0
  generalize (u * B32 + u1) % Y = r at *
  simp only [IntKind.wrap_u64]
  rw [← Int.natCast_mul]
  generalize q * Y = p at *
  unfold B32 at h1
  omega

theorem u64_quo (u y1 : Nat) (hu : u < 18446744073709551616) : IntKind.u64.wrap ((u : Int) / (y1 : Int)) = ((u / y1 : Nat) : Int) := by
  rw [← Int.natCast_ediv]; exact wrap_nat _ (Nat.lt_of_le_of_lt (Nat.div_le_self _ _) hu)

theorem u64_rem (u y1 : Nat) (hu : u < 18446744073709551616) : IntKind.u64.wrap ((u : Int) - IntKind.u64.wrap (((u / y1 : Nat) : Int) * (y1 : Int))) = ((u % y1 : Nat) : Int) := by
  have h1 := Nat.div_add_mod' u y1
  rw [u64_mul _ _ (by omega)]
  generalize u / y1 * y1 = p at *
  rw [IntKind.wrap_u64]; omega
/-- what comes of the two digits -/
theorem div_fin {hi lo y s Y y1 y0 h' l' u t u1 u0 Q u21 Q2 R : Nat} (D : DivPrep hi lo y s Y y1 y0 h' l' u t u1 u0) (hy : 0 < Y) (hQ : Q = (u * B32 + u1) / Y) (h21 : u21 = (u * B32 + u1) % Y) (hQ2 : Q2 = (u21 * B32 + u0) / Y) (hR : R = (u21 * B32 + u0) % Y) :
    (Q : Int) * 4294967296 + (Q2 : Int) = (((hi * 18446744073709551616 + lo) / y : Nat) : Int) ∧ (R : Int) / 2 ^ s = (((hi * 18446744073709551616 + lo) % y : Nat) : Int) := by
  obtain ⟨k1, k2⟩ := k_two (y := Y) (u := u) (u1 := u1) (u0 := u0) hy
  rw [← h21] at k1 k2
  rw [← hQ, ← hQ2, D.all, D.Ys] at k1
  rw [← hR, D.all, D.Ys] at k2
  have hc : 0 < 2 ^ s := Nat.pow_pos (by decide)
  rw [Nat.mul_div_mul_right _ _ hc] at k1
  rw [Nat.mul_mod_mul_right] at k2
  constructor
  · rw [← k1]; unfold B32; omega
  · have hcast : ((2 : Int) ^ s) = ((2 ^ s : Nat) : Int) := by rw [Int.natCast_pow]; rfl
    rw [k2, hcast, ← Int.natCast_ediv, Nat.mul_div_cancel _ hc]
end Go.Proofs.YtajnfkmkombajabGreatDoor
