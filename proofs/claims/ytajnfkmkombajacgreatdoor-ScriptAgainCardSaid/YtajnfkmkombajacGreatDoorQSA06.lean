/-
  A chain as plain numbers: what each call answers and leaves; that its sums are right. No program in sight.
  Evidence as a map's key: how it reads; a look-up of a bool in a map of the call's own.
  A []Act argument of the chain's laws, opened: it reads as acts.
-/
import Derived.Test.YtajnfkmkombajacGreatDoorQSA05
import Derived.Test.YtajnfkmkombajacGreatDoorQSA01
import Derived.Maps.OwnOps
import Derived.Maps.OwnSet
import Derived.DeepKeys4
import Derived.Test.YtajnfkmkombajacGreatDoorProg
import Derived.Test.YtajnfkmkombajacGreatDoorQSA03
set_option linter.unusedVariables false
set_option linter.unusedSimpArgs false
set_option linter.unusedVariables false
namespace Go.Proofs.YtajnfkmkombajacGreatDoor
open Go.RowKit

/-- evidence: a baker, a cycle, a number -/
structure EV where
  b : Int
  c : Int
  n : Int
deriving DecidableEq
/-- a court: all cases that were ever taken; so many of them were asked for -/
structure KS where
  L : List (Int × EV)
  done : Nat
def KS.new : KS := ⟨[], 0⟩
def KS.due (k : KS) : List (Int × EV) := k.L.drop k.done
def KS.code (k : KS) (o : Int) (e : EV) (cy : Int) : Nat :=
  if ownB o = false ∨ e.b < 0 ∨ 3 ≤ e.b ∨ e.n < 0 ∨ cy < 0 ∨ 1048576 < cy then 2
  else if cy < e.c ∨ e.c < cy - 2 ∨ e.c < 0 then 10 else if k.L.any (fun x => decide (x.2 = e)) then 5 else 0
def KS.accuse (k : KS) (o : Int) (e : EV) (cy : Int) : Nat × KS := if k.code o e cy ≠ 0 then (k.code o e cy, k) else (0, ⟨k.L ++ [(o, e)], k.done⟩)
def KS.asked (k : KS) : KS := ⟨k.L, k.L.length⟩
def pct (n : Int) : Int := if n.tmod 2 = 0 then 5 else 50

structure CS where
  p : PS
  s : SS
  k : KS
  cycle : Int
  level : Int
  bonus : Int
  pics : List (List Int)

def pic1 (n : Int) : Int := if n < 100 then 0 else if 1073741824 < n then 1073741824 else n
def SS.picture (s : SS) : List Int := [pic1 (s.staked 0), pic1 (s.staked 1), pic1 (s.staked 2)]
def CS.stakedAll (c : CS) : Int := c.s.staked 0 + c.s.staked 1 + c.s.staked 2
def CS.ratio (c : CS) : Int := ratioN c.stakedAll c.p.supply
def CS.stakeOp (c : CS) (o b n : Int) : Nat × CS :=
  if (c.p.outOp o n).1 ≠ 0 then ((c.p.outOp o n).1, c)
  else if (c.s.joinOp o b n).1 ≠ 0 then ((c.s.joinOp o b n).1, { c with p := ((c.p.outOp o n).2.inOp o n).2, s := (c.s.joinOp o b n).2 })
  else (0, { c with p := (c.p.outOp o n).2, s := (c.s.joinOp o b n).2 })
def CS.freeOp (c : CS) (o : Int) : Int × Nat × CS :=
  if (c.s.freeOp o c.cycle).2.1 ≠ 0 then (0, (c.s.freeOp o c.cycle).2.1, { c with s := (c.s.freeOp o c.cycle).2.2 })
  else ((c.s.freeOp o c.cycle).1, (c.p.inOp o (c.s.freeOp o c.cycle).1).1, { c with s := (c.s.freeOp o c.cycle).2.2, p := (c.p.inOp o (c.s.freeOp o c.cycle).1).2 })
def CS.issues (c : CS) : Int := rewardN c.p.supply (rateN c.ratio c.bonus)
def CS.reward (c : CS) (b : Int) : Int × CS :=
  if 1125899906842624 < c.p.supply + c.issues then (0, c)
  else if (c.s.addOp b c.issues).1 ≠ 0 then (0, { c with s := (c.s.addOp b c.issues).2 })
  else if (c.p.growOp c.issues).1 ≠ 0 then (0, { c with s := (c.s.addOp b c.issues).2, p := (c.p.growOp c.issues).2 })
  else (c.issues, { c with s := (c.s.addOp b c.issues).2, p := (c.p.growOp c.issues).2 })
def CS.judge (c : CS) (x : Int × EV) : CS :=
  { c with s := (c.s.slashOp x.2.b x.2.c (pct x.2.n)).2.2, p := ((c.p.inOp x.1 ((c.s.slashOp x.2.b x.2.c (pct x.2.n)).1 / 7)).2.burnOp ((c.s.slashOp x.2.b x.2.c (pct x.2.n)).1 - (c.s.slashOp x.2.b x.2.c (pct x.2.n)).1 / 7)).2 }
def CS.judged (c : CS) : CS := (c.k.due.foldl CS.judge c)
/-- the picture of a cycle's end, or the last one -/
def CS.newPic (c : CS) : List Int := if c.s.picture = [0, 0, 0] then c.pics.getD 2 [] else c.s.picture
def CS.endOp (c : CS) : CS :=
  let d := c.judged
  { d with k := c.k.asked, bonus := bonusN d.bonus d.ratio, cycle := d.cycle + 1, pics := d.pics.drop 1 ++ [d.newPic] }
def CS.stepOp (c : CS) : CS := if (c.level + 1) % 4 = 0 then ({ c with level := c.level + 1 } : CS).endOp else { c with level := c.level + 1 }

/-! ### sums -/
structure CS.Inv (c : CS) : Prop where
  p : c.p.Ok
  s : c.s.Ok
  reg : ∀ k : Int, 0 ≤ k → k < 3 → c.s.is k = true
  bal : c.p.sum + c.s.total = c.p.supply
  known : ∀ x ∈ c.k.L, ownB x.1 = true ∧ (0 ≤ x.2.b ∧ x.2.b < 3) ∧ 0 ≤ x.2.n
  done : c.k.done ≤ c.k.L.length
  b0 : 0 ≤ c.bonus
  b1 : c.bonus ≤ 5000
  three : c.pics.length = 3
  pic : ∀ l ∈ c.pics, l.length = 3 ∧ (∀ x ∈ l, 0 ≤ x ∧ x ≤ 1073741824) ∧ 1 ≤ l.sum
  cy : 0 ≤ c.cycle
  lv : 0 ≤ c.level

theorem SS.pool_reg {s : SS} {k : Int} (h : s.is k = true) : ∃ q, s.pool k = some q := by
  unfold SS.is at h
  cases hp : s.pool k with
  | none => rw [hp] at h; cases h
  | some q => exact ⟨q, rfl⟩
theorem SS.is_setP' {s : SS} (h : s.Ok) {k : Int} {q r : QS} (hk : s.pool k = some q) {j : Int} (hj : s.is j = true) : (s.setP k r).is j = true := by
  have := h.lt hk; exact SS.is_setP h this.1 this.2 r hj
theorem SS.is_join {s : SS} (h : s.Ok) (o k n : Int) {j : Int} (hj : s.is j = true) : (s.joinOp o k n).2.is j = true := by
  unfold SS.joinOp
  cases hp : s.pool k with
  | none => exact hj
  | some q => exact SS.is_setP' h hp hj
theorem SS.is_add {s : SS} (h : s.Ok) (k n : Int) {j : Int} (hj : s.is j = true) : (s.addOp k n).2.is j = true := by
  unfold SS.addOp
  cases hp : s.pool k with
  | none => exact hj
  | some q => exact SS.is_setP' h hp hj
theorem SS.is_leave {s : SS} (h : s.Ok) (o k n c : Int) {j : Int} (hj : s.is j = true) : (s.leaveOp o k n c).2.is j = true := by
  unfold SS.leaveOp
  cases hp : s.pool k with
  | none => exact hj
  | some q =>
    simp only
    split
    · exact hj
    · split
      · exact hj
      · split
        · exact hj
        · exact SS.is_setP' h hp hj
theorem SS.is_free {s : SS} (o c : Int) {j : Int} (hj : s.is j = true) : (s.freeOp o c).2.2.is j = true := by
  unfold SS.freeOp
  split
  · exact hj
  · split <;> exact hj
theorem SS.is_slash {s : SS} (h : s.Ok) (k f p : Int) {j : Int} (hj : s.is j = true) : (s.slashOp k f p).2.2.is j = true := by
  unfold SS.slashOp
  cases hp : s.pool k with
  | none => exact hj
  | some q =>
    simp only
    split
    · exact hj
    · exact SS.is_setP' (r := (q.slashOp p).2.2) h hp hj

theorem SS.staked_bd {s : SS} (h : s.Ok) : 0 ≤ s.staked 0 ∧ 0 ≤ s.staked 1 ∧ 0 ≤ s.staked 2 ∧ s.staked 0 + s.staked 1 + s.staked 2 ≤ s.total := by
  have hw : 0 ≤ (s.W.map (·.q.total)).sum := by
    have : ∀ x ∈ s.W.map (·.q.total), 0 ≤ x := by
      intro x hx
      obtain ⟨y, hy, rfl⟩ := List.mem_map.1 hx
      exact (h.waits y hy).1.t0
    exact (sum_le_of_nonneg this 0).2.1
  have hp : ∀ o, o ∈ s.P → 0 ≤ optT o := fun o ho => by
    cases o with
    | none => simp [optT]
    | some q => exact (h.pools q ho).t0
  have h3 := h.three
  match hP : s.P, h3 with
  | [a, b, c], _ =>
    have ea : s.staked 0 = optT a := by unfold SS.staked SS.pool; simp [hP, optT]
    have eb : s.staked 1 = optT b := by unfold SS.staked SS.pool; simp [hP, optT]
    have ec : s.staked 2 = optT c := by unfold SS.staked SS.pool; simp [hP, optT]
    have h0 := hp a (by rw [hP]; simp); have h1 := hp b (by rw [hP]; simp); have h2 := hp c (by rw [hP]; simp)
    refine ⟨by rw [ea]; exact h0, by rw [eb]; exact h1, by rw [ec]; exact h2, ?_⟩
    unfold SS.total; rw [hP]; simp only [List.map_cons, List.map_nil, List.sum_cons, List.sum_nil, ea, eb, ec]; omega

theorem PS.out_sum {p : PS} (o n : Int) : ((p.outOp o n).1 = 0 → (p.outOp o n).2 = p.change o (-n) ∧ lookC o n = 0 ∧ n ≤ p.at o) ∧ ((p.outOp o n).1 ≠ 0 → (p.outOp o n).2 = p) := by
  unfold PS.outOp
  split
  · exact ⟨fun h => (by cases h), fun _ => rfl⟩
  · split
    · exact ⟨fun h => (by cases h), fun _ => rfl⟩
    · next h1 h2 => exact ⟨fun _ => ⟨rfl, Decidable.not_not.1 h1, by omega⟩, fun h => absurd rfl h⟩
theorem PS.in_sum {p : PS} (o n : Int) (h : lookC o n = 0) (h1 : n ≤ p.supply - p.sum) : p.inOp o n = (0, p.change o n) := by
  unfold PS.inOp; rw [if_neg (by simp [h]), if_neg (by omega)]
theorem PS.in_any {p : PS} (o n : Int) : (p.inOp o n).2.supply = p.supply ∧ (p.inOp o n).2.has.length = p.has.length := by
  unfold PS.inOp; repeat' split
  all_goals simp [PS.change]
theorem PS.move_sum {p : PS} (a b n : Int) : (p.moveOp a b n).2.supply = p.supply ∧ ((p.moveOp a b n).2.sum = p.sum ∨ p.supply < p.sum) := by
  unfold PS.moveOp
  split
  · exact ⟨rfl, .inl rfl⟩
  · split
    · next h => rw [(PS.out_sum (p := p) a n).2 h]; exact ⟨rfl, .inl rfl⟩
    · next hb h =>
      obtain ⟨h1, h2, h3⟩ := (PS.out_sum (p := p) a n).1 (Decidable.not_not.1 h)
      rw [h1]
      refine ⟨(PS.in_any _ _).1, ?_⟩
      by_cases hl : p.supply < p.sum
      · exact .inr hl
      · have hb' : lookC b n = 0 := Decidable.not_not.1 hb
        rw [PS.in_sum b n hb' (by simp [PS.change]; omega)]
        left; simp [PS.change]; omega

theorem CS.Inv.withP {c : CS} (h : c.Inv) {p : PS} (hp : p.Ok) (hb : p.sum + c.s.total = p.supply) : ({ c with p := p } : CS).Inv :=
  ⟨hp, h.s, h.reg, hb, h.known, h.done, h.b0, h.b1, h.three, h.pic, h.cy, h.lv⟩
theorem CS.Inv.withPS {c : CS} (h : c.Inv) {p : PS} {s : SS} (hp : p.Ok) (hs : s.Ok) (hr : ∀ k, c.s.is k = true → s.is k = true) (hb : p.sum + s.total = p.supply) : ({ c with p := p, s := s } : CS).Inv :=
  ⟨hp, hs, fun k h0 h3 => hr k (h.reg k h0 h3), hb, h.known, h.done, h.b0, h.b1, h.three, h.pic, h.cy, h.lv⟩

theorem CS.pay_inv {c : CS} (h : c.Inv) (a b n : Int) : ({ c with p := (c.p.moveOp a b n).2 } : CS).Inv ∧ (c.p.moveOp a b n).2.supply = c.p.supply := by
  obtain ⟨h1, h2⟩ := PS.move_sum (p := c.p) a b n
  have hle := h.p.le
  have hb := h.bal
  rcases h2 with h2 | h2
  · exact ⟨h.withP (PS.moveOp_ok h.p a b n) (by rw [h1, h2]; exact hb), h1⟩
  · omega
theorem CS.stake_inv {c : CS} (h : c.Inv) (o b n : Int) : (c.stakeOp o b n).2.Inv ∧ (c.stakeOp o b n).2.p.supply = c.p.supply := by
  have hb := h.bal
  obtain ⟨o1, o2⟩ := PS.out_sum (p := c.p) o n
  obtain ⟨j1, j2⟩ := SS.join_total h.s o b n
  have hjs := SS.joinOp_ok h.s o b n
  unfold CS.stakeOp
  split
  · exact ⟨h, rfl⟩
  · next hc =>
    obtain ⟨e1, e2, e3⟩ := o1 (Decidable.not_not.1 hc)
    have hok := PS.outOp_ok h.p o n
    rw [e1] at hok ⊢
    have hle := h.p.le
    obtain ⟨-, n0, -⟩ := lookC_zero.1 e2
    split
    · next hj =>
      have ei := PS.in_sum (p := c.p.change o (-n)) o n e2 (by simp [PS.change]; omega)
      have hok2 := PS.inOp_ok hok o n
      rw [ei] at hok2 ⊢
      exact ⟨h.withPS hok2 hjs (fun k hk => SS.is_join h.s o b n hk) (by rw [j2 hj]; simp [PS.change]; omega), rfl⟩
    · next hj =>
      exact ⟨h.withPS hok hjs (fun k hk => SS.is_join h.s o b n hk) (by rw [j1 (Decidable.not_not.1 hj)]; simp [PS.change]; omega), rfl⟩
theorem CS.unstake_inv {c : CS} (h : c.Inv) (o b n : Int) : ({ c with s := (c.s.leaveOp o b n c.cycle).2 } : CS).Inv :=
  h.withPS (p := c.p) h.p (SS.leaveOp_ok h.s o b n c.cycle) (fun k hk => SS.is_leave h.s o b n c.cycle hk) (by rw [SS.leave_total h.s]; exact h.bal)
theorem SS.free_owner {s : SS} {o c : Int} (h : (s.freeOp o c).2.1 = 0) : ownB o = true := by
  unfold SS.freeOp at h
  split at h
  · cases h
  · next hn => cases ho : ownB o with
    | true => rfl
    | false => exact absurd (.inr ho) hn
theorem CS.free_inv {c : CS} (h : c.Inv) (o : Int) : (c.freeOp o).2.2.Inv ∧ (c.freeOp o).2.2.p.supply = c.p.supply ∧ ((c.s.freeOp o c.cycle).2.1 = 0 → (c.p.inOp o (c.s.freeOp o c.cycle).1).1 = 0) := by
  have hb := h.bal
  obtain ⟨f1, f2, f3⟩ := SS.free_total h.s o c.cycle
  have fs := SS.freeOp_ok h.s o c.cycle
  have t0 := fs.total_bd.1
  have hm := h.p.most
  have s0 := h.p.sum_bd
  unfold CS.freeOp
  split
  · next hc =>
    refine ⟨h.withPS (p := c.p) h.p fs (fun k hk => SS.is_free o c.cycle hk) ?_, rfl, fun h => absurd h hc⟩
    rw [f1, f3 hc]; omega
  · next hc =>
    have ho := SS.free_owner (Decidable.not_not.1 hc)
    have hl : lookC o (c.s.freeOp o c.cycle).1 = 0 := lookC_zero.2 ⟨ho, f2, by omega⟩
    have ei := PS.in_sum (p := c.p) o _ hl (by omega)
    have hok := PS.inOp_ok h.p o (c.s.freeOp o c.cycle).1
    rw [ei] at hok ⊢
    exact ⟨h.withPS hok fs (fun k hk => SS.is_free o c.cycle hk) (by simp only [PS.change]; omega), rfl, fun _ => rfl⟩
theorem CS.accuse_inv {c : CS} (h : c.Inv) (o : Int) (e : EV) : ({ c with k := (c.k.accuse o e c.cycle).2 } : CS).Inv := by
  refine ⟨h.p, h.s, h.reg, h.bal, fun x hx => ?_, ?_, h.b0, h.b1, h.three, h.pic, h.cy, h.lv⟩
  · unfold KS.accuse at hx
    split at hx
    · exact h.known x hx
    · next hc =>
      rcases List.mem_append.1 hx with hx | hx
      · exact h.known x hx
      · obtain rfl := List.mem_singleton.1 hx
        unfold KS.code at hc
        split at hc
        · simp at hc
        · next hn =>
          have ho : ownB o = true := by cases hob : ownB o with
            | true => rfl
            | false => exact absurd (.inl hob) hn
          exact ⟨ho, by simp only; omega, by simp only; omega⟩
  · have := h.done
    unfold KS.accuse
    split
    · exact this
    · simp; omega

theorem CS.ratio_bd {c : CS} (h : c.Inv) : 0 ≤ c.ratio ∧ c.ratio ≤ 1000000 := by
  unfold CS.ratio
  by_cases hr : ratioOk c.stakedAll c.p.supply
  · exact ratio_in hr
  · unfold ratioN; rw [if_neg hr]; omega
theorem CS.issues_bd {c : CS} (h : c.Inv) : 0 ≤ c.issues ∧ c.issues ≤ 1125899906842624 := by
  unfold CS.issues
  by_cases hr : rewardOk c.p.supply (rateN c.ratio c.bonus)
  · have := reward_in hr; have := h.p.most; omega
  · unfold rewardN; rw [if_neg hr]; omega
theorem CS.reward_inv {c : CS} (h : c.Inv) (b : Int) : (c.reward b).2.Inv ∧ 0 ≤ (c.reward b).1 ∧ (c.reward b).2.p.supply = c.p.supply + (c.reward b).1 ∧ (c.reward b).2.cycle = c.cycle ∧ (c.reward b).2.level = c.level := by
  have hb := h.bal
  have hi := CS.issues_bd h
  obtain ⟨a1, a2⟩ := SS.add_total h.s b c.issues
  have aok := SS.addOp_ok h.s b c.issues
  have hle := h.p.le
  have s0 := h.p.sum_bd
  unfold CS.reward
  split
  · exact ⟨h, by simp, by simp, rfl, rfl⟩
  · next hm =>
    split
    · next ha => exact ⟨h.withPS (p := c.p) h.p aok (fun k hk => SS.is_add h.s b c.issues hk) (by rw [a2 ha]; exact hb), by simp, by simp, rfl, rfl⟩
    · next ha =>
      have hg : c.p.growOp c.issues = (0, c.p.grow c.issues) := by
        unfold PS.growOp; rw [if_pos]; simp only [Bool.and_eq_true, amtB_iff]; omega
      have hok := PS.growOp_ok h.p c.issues
      rw [hg] at hok ⊢
      rw [if_neg (by simp)]
      exact ⟨h.withPS hok aok (fun k hk => SS.is_add h.s b c.issues hk) (by rw [a1 (Decidable.not_not.1 ha)]; simp only [PS.grow]; omega), hi.1, rfl, rfl, rfl⟩

theorem pct_in (n : Int) : 0 ≤ pct n ∧ pct n ≤ 100 := by unfold pct; split <;> omega
theorem CS.judge_inv {c : CS} (h : c.Inv) {x : Int × EV} (ho : ownB x.1 = true) : (c.judge x).Inv ∧ (c.judge x).p.supply ≤ c.p.supply := by
  have hb := h.bal
  obtain ⟨l1, l2, -⟩ := SS.slash_total h.s x.2.b x.2.c (pct x.2.n)
  have ss := SS.slashOp_ok h.s x.2.b x.2.c (pct x.2.n)
  have hr := fun k hk => SS.is_slash h.s x.2.b x.2.c (pct x.2.n) (j := k) hk
  have t0 := ss.total_bd.1
  have hm := h.p.most
  have s0 := h.p.sum_bd
  unfold CS.judge
  generalize c.s.slashOp x.2.b x.2.c (pct x.2.n) = r at *
  obtain ⟨lost, code, st⟩ := r
  simp only at *
  have hl : lookC x.1 (lost / 7) = 0 := lookC_zero.2 ⟨ho, by omega, by omega⟩
  have ei := PS.in_sum (p := c.p) x.1 (lost / 7) hl (by omega)
  have ok1 := PS.inOp_ok h.p x.1 (lost / 7)
  rw [ei] at ok1 ⊢
  have eb : (c.p.change x.1 (lost / 7)).burnOp (lost - lost / 7) = (0, (c.p.change x.1 (lost / 7)).grow (-(lost - lost / 7))) := by
    unfold PS.burnOp; rw [if_neg (by rw [amtB_false]; omega), if_neg (by simp only [PS.change]; omega)]
  have ok2 := PS.burnOp_ok ok1 (lost - lost / 7)
  rw [eb] at ok2 ⊢
  exact ⟨h.withPS ok2 ss hr (by simp only [PS.grow, PS.change]; omega), by simp only [PS.grow, PS.change]; omega⟩
theorem CS.judge_keeps (c : CS) (x : Int × EV) : (c.judge x).k = c.k ∧ (c.judge x).cycle = c.cycle ∧ (c.judge x).level = c.level ∧ (c.judge x).bonus = c.bonus ∧ (c.judge x).pics = c.pics := ⟨rfl, rfl, rfl, rfl, rfl⟩
theorem CS.judges_inv : ∀ (l : List (Int × EV)) {c : CS}, c.Inv → (∀ x ∈ l, ownB x.1 = true) → (l.foldl CS.judge c).Inv ∧ (l.foldl CS.judge c).p.supply ≤ c.p.supply ∧ (l.foldl CS.judge c).k = c.k ∧ (l.foldl CS.judge c).cycle = c.cycle ∧ (l.foldl CS.judge c).level = c.level ∧ (l.foldl CS.judge c).bonus = c.bonus ∧ (l.foldl CS.judge c).pics = c.pics
  | [], c, h, _ => ⟨h, Int.le_refl _, rfl, rfl, rfl, rfl, rfl⟩
  | x :: l, c, h, hx => by
    obtain ⟨h1, h2⟩ := CS.judge_inv h (hx x (by simp))
    obtain ⟨a, b, d1, d2, d3, d4, d5⟩ := CS.judges_inv l h1 (fun y hy => hx y (by simp [hy]))
    exact ⟨a, by simp only [List.foldl_cons]; omega, d1, d2, d3, d4, d5⟩

theorem pic1_bd (n : Int) (h : 0 ≤ n) : 0 ≤ pic1 n ∧ pic1 n ≤ 1073741824 := by unfold pic1; repeat' split
                                                                               all_goals omega
theorem SS.picture_ok {s : SS} (h : s.Ok) : s.picture.length = 3 ∧ (∀ x ∈ s.picture, 0 ≤ x ∧ x ≤ 1073741824) ∧ (s.picture ≠ [0, 0, 0] → 1 ≤ s.picture.sum) := by
  obtain ⟨h0, h1, h2, _⟩ := SS.staked_bd h
  have p0 := pic1_bd _ h0; have p1 := pic1_bd _ h1; have p2 := pic1_bd _ h2
  unfold SS.picture
  generalize pic1 (s.staked 0) = a at *
  generalize pic1 (s.staked 1) = b at *
  generalize pic1 (s.staked 2) = c at *
  refine ⟨rfl, fun x hx => ?_, fun hne => ?_⟩
  · simp at hx; rcases hx with rfl | rfl | rfl <;> assumption
  · simp only [List.sum_cons, List.sum_nil]
    by_cases ha : a = 0
    · by_cases hb : b = 0
      · by_cases hc : c = 0
        · exact absurd (by rw [ha, hb, hc]) hne
        · omega
      · omega
    · omega
theorem getD_mem {α : Type} (l : List α) (i : Nat) (d : α) (h : i < l.length) : l.getD i d ∈ l := by
  rw [List.getD_eq_getElem?_getD, List.getElem?_eq_getElem h]; exact List.getElem_mem h

theorem CS.end_inv {c : CS} (h : c.Inv) : c.endOp.Inv ∧ c.endOp.p.supply ≤ c.p.supply ∧ c.endOp.cycle = c.cycle + 1 ∧ c.endOp.level = c.level := by
  have hd : ∀ x ∈ c.k.due, ownB x.1 = true := fun x hx => (h.known x (List.mem_of_mem_drop hx)).1
  obtain ⟨a, b, d1, d2, d3, d4, d5⟩ := CS.judges_inv c.k.due h hd
  have e : c.judged = c.k.due.foldl CS.judge c := rfl
  have hbn : 0 ≤ bonusN c.judged.bonus c.judged.ratio ∧ bonusN c.judged.bonus c.judged.ratio ≤ 5000 := by
    unfold bonusN
    have := a.b0; have := a.b1
    rw [← e] at *
    repeat' split
    all_goals omega
  refine ⟨⟨a.p, a.s, a.reg, a.bal, ?_, Nat.le_refl _, hbn.1, hbn.2, ?_, ?_, by have := a.cy; show 0 ≤ c.judged.cycle + 1; rw [e]; omega, a.lv⟩, b, by show c.judged.cycle + 1 = _; rw [e, d2], d3⟩
  · exact h.known
  · show (c.judged.pics.drop 1 ++ [c.judged.newPic]).length = 3
    rw [e]; simp [a.three]
  · intro l hl
    have hl : l ∈ c.judged.pics.drop 1 ++ [c.judged.newPic] := hl
    rcases List.mem_append.1 hl with hl | hl
    · exact a.pic l (List.mem_of_mem_drop hl)
    · obtain rfl := List.mem_singleton.1 hl
      unfold CS.newPic
      rw [e]
      split
      · exact a.pic _ (getD_mem _ _ _ (by rw [a.three]; decide))
      · next hne => obtain ⟨q1, q2, q3⟩ := SS.picture_ok a.s; exact ⟨q1, q2, q3 hne⟩
theorem CS.step_inv {c : CS} (h : c.Inv) : c.stepOp.Inv ∧ c.stepOp.p.supply ≤ c.p.supply ∧ (c.stepOp.cycle = c.cycle → c.stepOp.p.supply = c.p.supply) ∧ c.stepOp.level = c.level + 1 ∧ c.stepOp.cycle ≤ c.cycle + 1 := by
  have hl : ({ c with level := c.level + 1 } : CS).Inv := ⟨h.p, h.s, h.reg, h.bal, h.known, h.done, h.b0, h.b1, h.three, h.pic, h.cy, by have := h.lv; show 0 ≤ c.level + 1; omega⟩
  unfold CS.stepOp
  split
  · obtain ⟨a, b, d1, d2⟩ := CS.end_inv hl
    exact ⟨a, b, fun hc => by rw [d1] at hc; simp only at hc; omega, d2, by rw [d1]; exact Int.le_refl _⟩
  · exact ⟨hl, Int.le_refl _, fun _ => rfl, rfl, by simp only; omega⟩
end Go.Proofs.YtajnfkmkombajacGreatDoor
namespace Go.Proofs.YtajnfkmkombajacGreatDoor
open Go.RowKit Go.Maps

theorem laidOut : laidOutB Tryz.prog = true := by kernel_rfl
theorem keyE : Keyed Tryz.prog 46 :=
  Keyed.of_law (deep_law_laid laidOut (m := 2) (by omega) (of_decide_eq_true (by kernel_rfl)) (by kernel_rfl) (by rw [Tryz.underlying46]))
theorem zeroB (w : World) : (zeroValue 4).run Tryz.prog w = .ok (.bool false) w := by kernel_rfl

def EV.wf (e : EV) : Prop := (Lit.int .i64 e.b).wf = true ∧ (Lit.int .i64 e.c).wf = true ∧ (Lit.int .i64 e.n).wf = true
def evV (e : EV) : Value := .agg #[.int .i64 e.b, .int .i64 e.c, .int .i64 e.n]
def evK (e : EV) : Lit := .string (keyBytes [.int .i64 e.b, .int .i64 e.c, .int .i64 e.n])

theorem keyOf_ev {e : EV} (h : e.wf) : keyOf Tryz.prog 46 (evV e) = some (evK e) := by
  obtain ⟨m, hm⟩ : ∃ m, Tryz.prog.types.size = m + 1 := Nat.exists_eq_succ_of_ne_zero (by have : 0 < Tryz.prog.types.size := of_decide_eq_true (by kernel_rfl); omega)
  have hkt : Tryz.prog.keyType 46 = true := by kernel_rfl
  have hce : Tryz.prog.cellsOf 46 = 3 := by kernel_rfl
  have hci : Tryz.prog.cellsOf 3 = 1 := by kernel_rfl
  have hu := Tryz.underlying46
  have hui := Tryz.underlying3
  obtain ⟨h1, h2, h3⟩ := h
  unfold keyOf evV evK
  simp only [hu]
  rw [if_pos (by simp [hkt, Value.formed, hu, hce]), hm]
  unfold Program.keyLits
  simp only [hu, Value.cells]
  simp [hce, hci, Program.keyLits, hui, h1, h2, h3]
theorem evK_inj {e f : EV} (he : e.wf) (hf : f.wf) (h : evK e = evK f) : e = f := by
  have h1 := keyOf_ev he
  have h2 := keyOf_ev hf
  rw [← h] at h2
  have := keyE.inj h1 h2
  simp only [evV, Value.agg.injEq, Array.mk.injEq, List.cons.injEq, Value.int.injEq, true_and, and_true] at this
  obtain ⟨a, b, c⟩ := this
  cases e; cases f; simp_all

section
variable {H : Type} {P : Program} {k e t : TypeId} {w : World} {b n : Nat} {D : DataW H}
theorem plainElem_bool_inv (he : P.underlying e = some .bool) {v : Value} {z : DataW H × List MemPlace} (h : plainElem P e v = some z) : ∃ x, v = .bool x ∧ z = (.lit (.bool x), []) := by
  unfold plainElem at h
  rw [he] at h
  cases v <;> simp at h
  exact ⟨_, rfl, h.symm⟩
theorem lookup_bool (h : w.ownsMap P k (plainElem P e) b n D) (K : Keyed P k) (ht : P.underlying t = some (.map k e)) (he : P.underlying e = some .bool) (hz : (zeroValue e).run P w = .ok (.bool false) w)
    {key : Value} {kl : Lit} (hkey : keyOf P k key = some kl) : ∃ c, (Instr.lookup t (.map (some b)) key false).run P w = .ok (.bool c) w ∧ D.atKey kl (.lit (.bool false)) = .lit (.bool c) := by
  obtain ⟨v, ps, hrun, hv⟩ := h.lookup K ht hz (plainElem_bool he false) hkey
  obtain ⟨c, rfl, hc⟩ := plainElem_bool_inv he hv
  simp only [Prod.mk.injEq] at hc
  exact ⟨c, hrun, hc.1⟩
theorem wpList_lookup_own_bool {ops : Array Oper} {rest : List Oper} {o : Oper} {a : Act} {Q : Exit → Act → World → Prop}
    (hg : o.guard = none) (m x : Operand) (t : TypeId) (hop : o.op = Op.lookup t m x false) (K : Keyed P k) (ht : P.underlying t = some (.map k e)) (he : P.underlying e = some .bool) (hz : (zeroValue e).run P w = .ok (.bool false) w) (b n : Nat) (D : DataW H)
    (hm : a.eval m = .map (some b)) (hown : w.ownsMap P k (plainElem P e) b n D) (key : Value) (kl : Lit) (hx : a.eval x = key) (hkey : keyOf P k key = some kl) (c : Bool) (hc : D.atKey kl (.lit (.bool false)) = .lit (.bool c))
    (hK : wpList P ops Q rest (a.put o.dst (.bool c)) w) : wpList P ops Q (o :: rest) a w := by
  refine wpList_plain hg fun K' hK' => ?_
  obtain ⟨c', hrun, hat⟩ := lookup_bool hown K ht he hz hkey
  have hcc : c' = c := by rw [hc] at hat; simpa using hat.symm
  subst hcc
  unfold Oper.wp
  simp [execOp, hop, hm, hx, hrun, Result.andThen]
  exact hK' _ _ hK
end
end Go.Proofs.YtajnfkmkombajacGreatDoor
namespace Go.Proofs.YtajnfkmkombajacGreatDoor
open Go.RowKit Go.ChangeShapes Go.WideShapes Go.Deep

/-- an act on a chain -/
structure ActC where
  kind : ByteArray
  o : Int
  t : Int
  b : Int
  n : Int
  round : Int
  e : EV
def ActC.enc (a : ActC) : List Value := [.string a.kind, .int .i64 a.o, .int .i64 a.t, .int .i64 a.b, .int .i64 a.n, .int .i64 a.round, .int .i64 a.e.b, .int .i64 a.e.c, .int .i64 a.e.n]
def ActC.wf (a : ActC) : Prop := a.kind.size ≤ maxLen ∧ (Lit.int .i64 a.o).wf = true ∧ (Lit.int .i64 a.t).wf = true ∧ (Lit.int .i64 a.b).wf = true ∧ (Lit.int .i64 a.n).wf = true ∧ (Lit.int .i64 a.round).wf = true ∧ a.e.wf

set_option maxRecDepth 8000 in
theorem cacts_of {H : Type} {enc : TypeId × Value → H} {W : World} {base : Nat} {spare : Nat → Bool} {held : Bool} {ao : Option Addr} {len cap : Nat} {d : DataW H} {p : List MemPlace}
    (h : DataW.Trod enc Tryz.prog W base spare held 42 (.slice ao len cap) d p) : ∃ l, RdR ActC.enc 9 W ao len cap l ∧ ∀ x ∈ l, x.wf := by
  obtain ⟨fuel, hf⟩ := h
  have hC : Tryz.prog.cellsOf 48 = 9 := by kernel_rfl
  have hE : Tryz.prog.cellsOf 46 = 3 := by kernel_rfl
  have hI : Tryz.prog.cellsOf 3 = 1 := by kernel_rfl
  have hS : Tryz.prog.cellsOf 9 = 1 := by kernel_rfl
  rcases open_slice Tryz.underlying42 hf with ⟨hcs, _⟩ | ⟨a, l, c, m, n, D, Pl, hcs, _, hl, hm, hmm, _, hall⟩
  · simp [Value.cells] at hcs
    obtain ⟨rfl, rfl, rfl⟩ := hcs
    exact ⟨[], RdR.nil _ _ _, fun x hx => by cases hx⟩
  · simp [Value.cells] at hcs
    obtain ⟨rfl, rfl, rfl⟩ := hcs
    refine RdR.of_cells (Q := ActC.wf) (by decide) hl hm fun i hi => ?_
    obtain ⟨cs, hc, ht⟩ := hall i (by rw [hmm]; split <;> omega)
    rw [hC] at hc
    obtain ⟨ys, n1, _, _, hlen, hyl, hfs⟩ := DataW.trod_struct Tryz.underlying48 ht
    obtain ⟨_, hcl, hat⟩ := World.cells?_some hc
    rw [hC] at hlen
    have hy : ∀ i, i < ys.length → ∃ y, ys[i]? = some y := fun i hi => ⟨_, List.getElem?_eq_getElem hi⟩
    have hyn : ys.length = 7 := hyl
    obtain ⟨y0, e0⟩ := hy 0 (by omega)
    obtain ⟨y1, e1⟩ := hy 1 (by omega)
    obtain ⟨y2, e2⟩ := hy 2 (by omega)
    obtain ⟨y3, e3⟩ := hy 3 (by omega)
    obtain ⟨y4, e4⟩ := hy 4 (by omega)
    obtain ⟨y5, e5⟩ := hy 5 (by omega)
    obtain ⟨y6, e6⟩ := hy 6 (by omega)
    have t0 : DataW.trod enc Tryz.prog W base spare held n1 9 ((cs.drop 0).take (Tryz.prog.cellsOf 9)) = some y0 := (hfs 0 _ rfl).trans e0
    have t1 : DataW.trod enc Tryz.prog W base spare held n1 3 ((cs.drop 1).take (Tryz.prog.cellsOf 3)) = some y1 := (hfs 1 _ rfl).trans e1
    have t2 : DataW.trod enc Tryz.prog W base spare held n1 3 ((cs.drop 2).take (Tryz.prog.cellsOf 3)) = some y2 := (hfs 2 _ rfl).trans e2
    have t3 : DataW.trod enc Tryz.prog W base spare held n1 3 ((cs.drop 3).take (Tryz.prog.cellsOf 3)) = some y3 := (hfs 3 _ rfl).trans e3
    have t4 : DataW.trod enc Tryz.prog W base spare held n1 3 ((cs.drop 4).take (Tryz.prog.cellsOf 3)) = some y4 := (hfs 4 _ rfl).trans e4
    have t5 : DataW.trod enc Tryz.prog W base spare held n1 3 ((cs.drop 5).take (Tryz.prog.cellsOf 3)) = some y5 := (hfs 5 _ rfl).trans e5
    have t6 : DataW.trod enc Tryz.prog W base spare held n1 46 ((cs.drop 6).take (Tryz.prog.cellsOf 46)) = some y6 := (hfs 6 _ rfl).trans e6
    match cs, hlen with
    | [v0, v1, v2, v3, v4, v5, v6, v7, v8], _ =>
      simp only [hI, hE, hS, List.drop_zero, List.drop_succ_cons, List.take_succ_cons, List.take_zero] at t0 t1 t2 t3 t4 t5 t6
      obtain ⟨x0, h0, _, w0⟩ := DataW.trod_string Tryz.underlying9 t0
      obtain ⟨x1, h1, _, w1⟩ := DataW.trod_int Tryz.underlying3 t1
      obtain ⟨x2, h2, _, w2⟩ := DataW.trod_int Tryz.underlying3 t2
      obtain ⟨x3, h3, _, w3⟩ := DataW.trod_int Tryz.underlying3 t3
      obtain ⟨x4, h4, _, w4⟩ := DataW.trod_int Tryz.underlying3 t4
      obtain ⟨x5, h5, _, w5⟩ := DataW.trod_int Tryz.underlying3 t5
      obtain ⟨zs, n2, _, _, _, hzl, hgs⟩ := DataW.trod_struct Tryz.underlying46 t6
      have hz : ∀ i, i < zs.length → ∃ y, zs[i]? = some y := fun i hi => ⟨_, List.getElem?_eq_getElem hi⟩
      have hzn : zs.length = 3 := hzl
      obtain ⟨z0, d0⟩ := hz 0 (by omega)
      obtain ⟨z1, d1⟩ := hz 1 (by omega)
      obtain ⟨z2, d2⟩ := hz 2 (by omega)
      have s0 : DataW.trod enc Tryz.prog W base spare held n2 3 (([v6, v7, v8].drop 0).take (Tryz.prog.cellsOf 3)) = some z0 := (hgs 0 _ rfl).trans d0
      have s1 : DataW.trod enc Tryz.prog W base spare held n2 3 (([v6, v7, v8].drop 1).take (Tryz.prog.cellsOf 3)) = some z1 := (hgs 1 _ rfl).trans d1
      have s2 : DataW.trod enc Tryz.prog W base spare held n2 3 (([v6, v7, v8].drop 2).take (Tryz.prog.cellsOf 3)) = some z2 := (hgs 2 _ rfl).trans d2
      simp only [hI, List.drop_zero, List.drop_succ_cons, List.take_succ_cons, List.take_zero] at s0 s1 s2
      obtain ⟨x6, h6, _, w6⟩ := DataW.trod_int Tryz.underlying3 s0
      obtain ⟨x7, h7, _, w7⟩ := DataW.trod_int Tryz.underlying3 s1
      obtain ⟨x8, h8, _, w8⟩ := DataW.trod_int Tryz.underlying3 s2
      obtain rfl : v0 = .string x0 := by simpa using h0
      obtain rfl : v1 = .int .i64 x1 := by simpa using h1
      obtain rfl : v2 = .int .i64 x2 := by simpa using h2
      obtain rfl : v3 = .int .i64 x3 := by simpa using h3
      obtain rfl : v4 = .int .i64 x4 := by simpa using h4
      obtain rfl : v5 = .int .i64 x5 := by simpa using h5
      obtain rfl : v6 = .int .i64 x6 := by simpa using h6
      obtain rfl : v7 = .int .i64 x7 := by simpa using h7
      obtain rfl : v8 = .int .i64 x8 := by simpa using h8
      refine ⟨⟨x0, x1, x2, x3, x4, x5, ⟨x6, x7, x8⟩⟩, fun j hj => ?_, by simp [ActC.enc], w0, w1, w2, w3, w4, w5, ⟨w6, w7, w8⟩⟩
      rw [← Go.Deep.add_add, hat j hj]
      rfl
end Go.Proofs.YtajnfkmkombajacGreatDoor
