/-
  Plain: what all pools of stakes hold together, act by act. No program in sight.
  Stakes of package stake in memory: how they lie; the calls that only read.
  Contracts of package stake: New, Register, Join, Add.
-/
import Derived.Test.YtajnfkmkombajacDoorQCL05
import Derived.Test.YtajnfkmkombajacDoorQCL04
import Derived.Deep.RegionWith
set_option linter.unusedVariables false
set_option linter.unusedSimpArgs false
namespace Go.Proofs.YtajnfkmkombajacDoor
open Go.RowKit

theorem sum_map_set {α : Type} (f : α → Int) : ∀ (l : List α) (i : Nat) (a b : α), l[i]? = some a → ((l.set i b).map f).sum = (l.map f).sum - f a + f b
  | [], i, a, b, h => by simp at h
  | x :: r, 0, a, b, h => by simp at h; subst h; simp; omega
  | x :: r, i + 1, a, b, h => by
    have := sum_map_set f r i a b (by simpa using h)
    simp only [List.set_cons_succ, List.map_cons, List.sum_cons, this]; omega
theorem sum_map_add {α : Type} (f g h : α → Int) (l : List α) (hh : ∀ x ∈ l, f x = g x + h x) : (l.map f).sum = (l.map g).sum + (l.map h).sum := by
  induction l with
  | nil => rfl
  | cons a r ih =>
    have h1 := hh a (by simp); have h2 := ih (fun x hx => hh x (by simp [hx]))
    simp only [List.map_cons, List.sum_cons]; omega

theorem SS.total_setP {s : SS} (h : s.Ok) {k : Int} {q : QS} (hk : s.pool k = some q) (q' : QS) : (s.setP k q').total = s.total - q.total + q'.total := by
  unfold SS.total SS.setP
  simp only [sum_map_set optT s.P k.toNat (some q) (some q') (h.at hk)]
  simp only [optT, Option.map_some, Option.getD_some]; omega
theorem SS.total_reg {s : SS} (h : s.Ok) {k : Int} (h0 : 0 ≤ k) (h3 : k < 3) (hk : s.pool k = none) (q' : QS) : (s.setP k q').total = s.total + q'.total := by
  have hat : s.P[k.toNat]? = some none := by
    unfold SS.pool at hk
    rw [if_pos h0, List.getD_eq_getElem?_getD, List.getElem?_eq_getElem (by rw [h.three]; omega)] at hk
    rw [List.getElem?_eq_getElem (by rw [h.three]; omega)]; exact congrArg some hk
  unfold SS.total SS.setP
  simp only [sum_map_set optT s.P k.toNat none (some q') hat]
  simp only [optT, Option.map_some, Option.map_none, Option.getD_some, Option.getD_none]; omega

theorem sum_put : ∀ (l : List WP) (k c : Int) (q q' : QS), (l.Pairwise fun x y => ¬ (x.b = y.b ∧ x.c = y.c)) → ⟨k, c, q⟩ ∈ l → ((l.map (WP.put k c q')).map (·.q.total)).sum = (l.map (·.q.total)).sum - q.total + q'.total
  | [], _, _, _, _, _, h => by cases h
  | x :: r, k, c, q, q', hp, h => by
    obtain ⟨p1, p2⟩ := List.pairwise_cons.1 hp
    simp only [List.map_cons, List.sum_cons]
    rcases List.mem_cons.1 h with e | e
    · subst e
      have e1 : WP.put k c q' ⟨k, c, q⟩ = ⟨k, c, q'⟩ := by unfold WP.put; rw [if_pos (WP.at_iff.2 ⟨rfl, rfl⟩)]
      have e2 : r.map (WP.put k c q') = r := by
        rw [List.map_congr_left (g := id)]
        · simp
        · intro y hy
          unfold WP.put; rw [if_neg]
          · rfl
          · intro hat; have := WP.at_iff.1 hat; exact p1 y hy ⟨this.1.symm, this.2.symm⟩
      rw [e1, e2]; simp only; omega
    · have e1 : WP.put k c q' x = x := by
        unfold WP.put; rw [if_neg]
        intro hat; have := WP.at_iff.1 hat
        exact p1 _ e ⟨this.1, this.2⟩
      rw [e1, sum_put r k c q q' p2 e]; omega
theorem SS.total_setW {s : SS} (h : s.Ok) (k c : Int) (q' : QS) : (s.setW k c q').total = s.total - ((s.find k c).getD ⟨0, 0, []⟩).total + q'.total := by
  unfold SS.setW SS.total
  cases hf : s.find k c with
  | some q =>
    simp only [Option.isSome_some, if_true, Option.getD_some]
    rw [sum_put s.W k c q q' h.apart (SS.find_some hf)]; omega
  | none =>
    simp only [Option.isSome_none, Bool.false_eq_true, if_false, Option.getD_none, List.map_append, List.sum_append, List.map_cons, List.map_nil, List.sum_cons, List.sum_nil]; omega

/-! ### pools, act by act -/
theorem QS.join_total {q : QS} (o n : Int) : ((q.joinOp o n).1 = 0 → (q.joinOp o n).2.total = q.total + n) ∧ ((q.joinOp o n).1 ≠ 0 → (q.joinOp o n).2 = q) := by
  unfold QS.joinOp
  repeat' split
  all_goals (refine ⟨fun h => ?_, fun h => ?_⟩ <;> simp_all [QS.change])
theorem QS.take_total {q : QS} (o n : Int) : ((q.takeOp o n).1 = 0 → (q.takeOp o n).2.total = q.total - n) ∧ ((q.takeOp o n).1 ≠ 0 → (q.takeOp o n).2 = q) := by
  unfold QS.takeOp
  repeat' split
  all_goals (refine ⟨fun h => ?_, fun h => ?_⟩ <;> simp_all [QS.change] <;> omega)
theorem QS.leave_total {q : QS} (o : Int) : (q.leaveOp o).2.2.total = q.total - (q.leaveOp o).1 ∧ ((q.leaveOp o).2.1 ≠ 0 → (q.leaveOp o).1 = 0 ∧ (q.leaveOp o).2.2 = q) := by
  unfold QS.leaveOp
  repeat' split
  all_goals (refine ⟨?_, fun h => ?_⟩ <;> simp_all [QS.change] <;> omega)
theorem QS.leave_pos {q : QS} (h : q.Ok) (o : Int) : 0 ≤ (q.leaveOp o).1 ∧ (q.leaveOp o).1 ≤ 1125899906842624 := by
  have hv := h.value_bd o
  have ht := h.t1
  unfold QS.leaveOp
  repeat' split
  all_goals simp only
  all_goals omega
theorem QS.add_total {q : QS} (n : Int) : ((q.addOp n).1 = 0 → (q.addOp n).2.total = q.total + n) ∧ ((q.addOp n).1 ≠ 0 → (q.addOp n).2 = q) := by
  unfold QS.addOp
  repeat' split
  all_goals (refine ⟨fun h => ?_, fun h => ?_⟩ <;> simp_all)
theorem QS.slash_total {q : QS} (h : q.Ok) (p : Int) : (q.slashOp p).2.2.total = q.total - (q.slashOp p).1 ∧ (0 ≤ (q.slashOp p).1 ∧ (q.slashOp p).1 ≤ 1125899906842624) ∧ ((q.slashOp p).2.1 ≠ 0 → (q.slashOp p).1 = 0 ∧ (q.slashOp p).2.2 = q) ∧ ((q.slashOp p).2.1 = 0 ↔ 0 ≤ p ∧ p ≤ 100) := by
  have t1 := h.t1
  unfold QS.slashOp
  split
  · next hc => refine ⟨by simp, by simp, fun _ => ⟨rfl, rfl⟩, by simp; omega⟩
  · next hc =>
    have := slash_bd h.t0 (show 0 ≤ p by omega) (by omega)
    refine ⟨rfl, by simp only; omega, fun h => absurd rfl h, by simp; omega⟩

/-! ### all acts -/
theorem SS.setP_same {s : SS} (h : s.Ok) {k : Int} {q : QS} (hk : s.pool k = some q) : s.setP k q = s := by
  have hat := h.at hk
  unfold SS.setP
  have : s.P.set k.toNat (some q) = s.P := by
    apply List.ext_getElem?
    intro i
    rw [List.getElem?_set]
    split
    · next e => subst e; rw [if_pos (by have := (List.getElem?_eq_some_iff.1 hat).1; omega), hat]
    · rfl
  rw [this]
theorem SS.join_total {s : SS} (h : s.Ok) (o k n : Int) : ((s.joinOp o k n).1 = 0 → (s.joinOp o k n).2.total = s.total + n) ∧ ((s.joinOp o k n).1 ≠ 0 → (s.joinOp o k n).2.total = s.total) := by
  unfold SS.joinOp
  cases hp : s.pool k with
  | none => exact ⟨fun h => (by cases h), fun _ => rfl⟩
  | some q =>
    obtain ⟨a, b⟩ := QS.join_total (q := q) o n
    simp only
    rw [SS.total_setP h hp]
    exact ⟨fun hc => by rw [a hc]; omega, fun hc => by rw [b hc]; omega⟩
theorem SS.add_total {s : SS} (h : s.Ok) (k n : Int) : ((s.addOp k n).1 = 0 → (s.addOp k n).2.total = s.total + n) ∧ ((s.addOp k n).1 ≠ 0 → (s.addOp k n).2.total = s.total) := by
  unfold SS.addOp
  cases hp : s.pool k with
  | none => exact ⟨fun h => (by cases h), fun _ => rfl⟩
  | some q =>
    obtain ⟨a, b⟩ := QS.add_total (q := q) n
    simp only
    rw [SS.total_setP h hp]
    exact ⟨fun hc => by rw [a hc]; omega, fun hc => by rw [b hc]; omega⟩
theorem SS.reg_total {s : SS} (h : s.Ok) (k : Int) : (s.regOp k).2.total = s.total := by
  unfold SS.regOp
  split
  · rfl
  · split
    · rfl
    · next h1 h2 =>
      have hn : s.pool k = none := by
        unfold SS.is at h2
        cases hp : s.pool k with
        | none => rfl
        | some q => rw [hp] at h2; simp at h2
      rw [SS.total_reg h (by omega) (by omega) hn]; simp [QS.new]
theorem SS.leave_total {s : SS} (h : s.Ok) (o k n c : Int) : (s.leaveOp o k n c).2.total = s.total := by
  unfold SS.leaveOp
  cases hp : s.pool k with
  | none => rfl
  | some q =>
    have hl := h.lt hp
    simp only
    split
    · rfl
    · split
      · rfl
      · next hc =>
        split
        · rfl
        · next hw =>
          have h1 := h.setP hl.1 hl.2 (QS.takeOp_ok (h.poolOk hp) o n)
          rw [SS.total_setW h1, SS.total_setP h hp, (QS.take_total o n).1 (Decidable.not_not.1 hc), (QS.join_total o n).1 (Decidable.not_not.1 hw)]
          have e : (s.setP k (q.takeOp o n).2).find k c = s.find k c := rfl
          rw [e]
          cases s.find k c with
          | none => simp [QS.new]; omega
          | some z => simp; omega
theorem SS.free_total {s : SS} (h : s.Ok) (o c : Int) : (s.freeOp o c).2.2.total = s.total - (s.freeOp o c).1 ∧ 0 ≤ (s.freeOp o c).1 ∧ ((s.freeOp o c).2.1 ≠ 0 → (s.freeOp o c).1 = 0) := by
  have hsum : ((s.W.map (·.left o c)).map (·.q.total)).sum = (s.W.map (·.q.total)).sum - (s.W.map (·.gets o c)).sum := by
    have := sum_map_add (fun x : WP => x.q.total) (fun x => (x.left o c).q.total) (·.gets o c) s.W (fun x hx => by
      obtain ⟨l1, l2⟩ := QS.leave_total (q := x.q) o
      unfold WP.left WP.gets
      split
      · simp only; split
        · omega
        · next hne => have := l2 hne; omega
      · simp)
    rw [List.map_map]
    have e : (s.W.map ((fun x : WP => x.q.total) ∘ fun x => x.left o c)).sum = (s.W.map fun x => (x.left o c).q.total).sum := rfl
    rw [e]; omega
  have hpos : 0 ≤ (s.W.map (·.gets o c)).sum := by
    have : ∀ x ∈ s.W.map (·.gets o c), 0 ≤ x := by
      intro x hx
      obtain ⟨y, hy, rfl⟩ := List.mem_map.1 hx
      have := (QS.leave_pos (h.waits y hy).1 o).1
      unfold WP.gets; repeat' split
      all_goals omega
    exact (sum_le_of_nonneg this 0).2.1
  unfold SS.freeOp
  split
  · exact ⟨by simp, by simp, fun _ => rfl⟩
  · split
    · refine ⟨?_, hpos, fun h => absurd rfl h⟩
      unfold SS.total; simp only; omega
    · next hn =>
      have hz : (s.W.map (·.gets o c)).sum = 0 := by
        have : s.W.map (·.gets o c) = s.W.map fun _ => (0 : Int) := by
          apply List.map_congr_left
          intro x hx
          have hx' : x.has o c = false := by
            simp only [List.any_eq_true, not_exists, not_and] at hn
            simpa using hn x hx
          unfold WP.has at hx'; unfold WP.gets
          split
          · next hf => rw [hf] at hx'; simp at hx'; rw [if_neg hx']
          · rfl
        rw [this]
        clear this hsum hpos hn h
        induction s.W with
        | nil => rfl
        | cons a r ih => simpa using ih
      refine ⟨?_, by simp, fun _ => rfl⟩
      unfold SS.total; simp only; omega
theorem SS.slash_total {s : SS} (h : s.Ok) (k f p : Int) : (s.slashOp k f p).2.2.total = s.total - (s.slashOp k f p).1 ∧ 0 ≤ (s.slashOp k f p).1 ∧ ((s.slashOp k f p).2.1 ≠ 0 → (s.slashOp k f p).1 = 0) := by
  unfold SS.slashOp
  cases hp : s.pool k with
  | none => exact ⟨by simp, by simp, fun _ => rfl⟩
  | some q =>
    obtain ⟨q1, q2, q3, q4⟩ := QS.slash_total (h.poolOk hp) p
    simp only
    split
    · exact ⟨by simp, by simp, fun _ => rfl⟩
    · next hc =>
      have hsum : ((s.W.map (·.slash k f p)).map (·.q.total)).sum = (s.W.map (·.q.total)).sum - (s.W.map (·.loses k f p)).sum := by
        have := sum_map_add (fun x : WP => x.q.total) (fun x => (x.slash k f p).q.total) (·.loses k f p) s.W (fun x hx => by
          obtain ⟨l1, _⟩ := QS.slash_total (h.waits x hx).1 p
          unfold WP.slash WP.loses
          split
          · simp only; omega
          · simp)
        rw [List.map_map]
        have e : (s.W.map ((fun x : WP => x.q.total) ∘ fun x => x.slash k f p)).sum = (s.W.map fun x => (x.slash k f p).q.total).sum := rfl
        rw [e]; omega
      have hpos : 0 ≤ (s.W.map (·.loses k f p)).sum := by
        have : ∀ x ∈ s.W.map (·.loses k f p), 0 ≤ x := by
          intro x hx
          obtain ⟨y, hy, rfl⟩ := List.mem_map.1 hx
          have := (QS.slash_total (h.waits y hy).1 p).2.1
          unfold WP.loses; split
          all_goals omega
        exact (sum_le_of_nonneg this 0).2.1
      have hP := SS.total_setP h hp (q.slashOp p).2.2
      unfold SS.setP SS.total at hP
      simp only at hP
      refine ⟨?_, by omega, fun h => absurd rfl h⟩
      unfold SS.total; simp only; omega
theorem SS.new_total : SS.new.total = 0 := by rfl
/-- how much there may be -/
theorem SS.Ok.total_bd {s : SS} (h : s.Ok) : 0 ≤ s.total ∧ s.total ≤ 1125899906842624 * (3 + (s.W.length : Int)) := by
  have h1 : ∀ l : List (Option QS), (∀ q, some q ∈ l → q.Ok) → 0 ≤ (l.map optT).sum ∧ (l.map optT).sum ≤ 1125899906842624 * (l.length : Int) := by
    intro l hl
    induction l with
    | nil => simp
    | cons a r ih =>
      have := ih (fun q hq => hl q (by simp [hq]))
      have ha : 0 ≤ optT a ∧ optT a ≤ 1125899906842624 := by
        cases a with
        | none => simp [optT]
        | some q => have hq := hl q (by simp); exact ⟨hq.t0, hq.t1⟩
      simp only [List.map_cons, List.sum_cons, List.length_cons]; omega
  have h2 : ∀ l : List WP, (∀ x ∈ l, x.q.Ok) → 0 ≤ (l.map (·.q.total)).sum ∧ (l.map (·.q.total)).sum ≤ 1125899906842624 * (l.length : Int) := by
    intro l hl
    induction l with
    | nil => simp
    | cons a r ih =>
      have := ih (fun q hq => hl q (by simp [hq]))
      have ha := hl a (by simp)
      have := ha.t0; have := ha.t1
      simp only [List.map_cons, List.sum_cons, List.length_cons]; omega
  have p1 := h1 s.P h.pools
  have p2 := h2 s.W (fun x hx => (h.waits x hx).1)
  rw [h.three] at p1
  unfold SS.total; omega
end Go.Proofs.YtajnfkmkombajacDoor
namespace Go.Proofs.YtajnfkmkombajacDoor
open Go.RowKit Go.Maps

/-- a pointer to the beginning of a block reads as the block's number; nil is not read -/
def blkElem (v : Value) : Option (DataW Unit × List MemPlace) :=
  match v with
  | .pointer (some a) => if a.off = 0 ∧ a.spot = none then some (.lit (.int .i64 a.block), []) else none
  | _ => none
theorem blkElem_mk (b : Nat) : blkElem (.pointer (some ⟨b, 0, none⟩)) = some (.lit (.int .i64 b), []) := by simp [blkElem]
theorem blkElem_inv {v : Value} {y : DataW Unit × List MemPlace} (h : blkElem v = some y) : ∃ b : Nat, v = .pointer (some ⟨b, 0, none⟩) ∧ y = (.lit (.int .i64 b), []) := by
  unfold blkElem at h
  split at h
  · next a =>
    split at h
    · next hc =>
      cases h
      obtain ⟨b, o, s⟩ := a
      simp only at hc
      obtain ⟨rfl, rfl⟩ := hc
      exact ⟨b, rfl, rfl⟩
    · cases h
  · cases h
theorem blkElem_is {v : Value} {b : Nat} {ps : List MemPlace} (h : blkElem v = some (.lit (.int .i64 b), ps)) : v = .pointer (some ⟨b, 0, none⟩) := by
  obtain ⟨b', h1, h2⟩ := blkElem_inv h
  simp only [Prod.mk.injEq, DataW.lit.injEq, Lit.int.injEq, true_and] at h2
  obtain ⟨e, _⟩ := h2
  have : b = b' := by omega
  rw [h1, this]

/-- what a block is for -/
inductive Role where
  | none
  | top
  | bak (k : Nat)
  | wai (k : Nat)
  | poo (k : Nat) (c : Option Int)
  | map (k : Nat) (c : Option Int)
/-- where what lies: bakers, the maps of what waits, pools and their maps; what each block is for -/
structure Lay where
  bb : Nat → Nat
  wm : Nat → Nat
  pb : Nat → Option Int → Nat
  pm : Nat → Option Int → Nat
  role : Nat → Role

def bptr (s : SS) (L : Lay) (k : Nat) : Value := if s.is k then .pointer (some ⟨L.bb k, 0, none⟩) else .pointer none
def waitD (L : Lay) (k : Nat) (c : Int) (o : Option QS) : DataW Unit := if o.isSome then .lit (.int .i64 (L.pb k (some c))) else .nil

structure StakesL (sb : Nat) (L : Lay) (n : Nat) (s : SS) (w : World) : Prop where
  ok : s.Ok
  top : RowAt sb 49 [bptr s L 0, bptr s L 1, bptr s L 2] w
  rtop : L.role sb = .top
  bak : ∀ k : Nat, k < 3 → s.is k = true → RowAt (L.bb k) 55 [.pointer (some ⟨L.pb k none, 0, none⟩), .map (some (L.wm k))] w ∧ L.role (L.bb k) = .bak k
  wai : ∀ k : Nat, k < 3 → s.is k = true → L.role (L.wm k) = .wai k ∧ ∃ D : DataW Unit, w.ownsMap Tryd.prog 3 blkElem (L.wm k) n D ∧ ∀ c : Int, D.atKey (.int .i64 c) .nil = waitD L k c (s.find k c)
  poo : ∀ (k : Nat) oc q, k < 3 → s.get k oc = some q → PoolAt (L.pb k oc) (L.pm k oc) n q w ∧ L.role (L.pb k oc) = .poo k oc ∧ L.role (L.pm k oc) = .map k oc
/-- block sb is stakes that hold s, among the blocks F -/
def StakesAt (sb : Nat) (F : Nat → Prop) (n : Nat) (s : SS) (w : World) : Prop := ∃ L, StakesL sb L n s w ∧ (∀ b, L.role b ≠ .none → F b) ∧ ∀ b, F b → b < w.heap.size

section
variable {sb n : Nat} {L : Lay} {s : SS} {w w' : World}
theorem StakesL.cell (h : StakesL sb L n s w) {k : Nat} (hk : k < 3) : w.cell? ⟨sb, k, none⟩ = some (bptr s L k) := by
  rw [h.top.cell]
  match k, hk with
  | 0, _ => rfl
  | 1, _ => rfl
  | 2, _ => rfl
theorem StakesL.baker (h : StakesL sb L n s w) {k : Nat} (hk : k < 3) (hi : s.is k = true) : w.cell? ⟨L.bb k, 0, none⟩ = some (.pointer (some ⟨L.pb k none, 0, none⟩)) ∧ w.cell? ⟨L.bb k, 1, none⟩ = some (.map (some (L.wm k))) := by
  have := (h.bak k hk hi).1
  exact ⟨by rw [this.cell]; rfl, by rw [this.cell]; rfl⟩
theorem bptr_yes {s : SS} {L : Lay} {k : Nat} (h : s.is k = true) : bptr s L k = .pointer (some ⟨L.bb k, 0, none⟩) := if_pos h
theorem bptr_no {s : SS} {L : Lay} {k : Nat} (h : s.is k = false) : bptr s L k = .pointer none := if_neg (by simp [h])
theorem SS.is_pool {s : SS} {k : Nat} : s.is (k : Int) = (s.get k none).isSome := by unfold SS.is SS.get; rw [SS.pool_nat]
theorem StakesL.keep {F : Nat → Prop} (h : StakesL sb L n s w) (k : Keep F w w') (hF : ∀ b, L.role b ≠ .none → ¬ F b) : StakesL sb L n s w' := by
  refine ⟨h.ok, h.top.keep k (hF _ (by rw [h.rtop]; simp)), h.rtop, fun j hj hi => ?_, fun j hj hi => ?_, fun j oc q hj hg => ?_⟩
  · obtain ⟨h1, h2⟩ := h.bak j hj hi
    exact ⟨h1.keep k (hF _ (by rw [h2]; simp)), h2⟩
  · obtain ⟨h1, D, h2, h3⟩ := h.wai j hj hi
    obtain ⟨es, clock, e1, e2⟩ := h2
    exact ⟨h1, D, ⟨es, clock, k.heap e1 (hF _ (by rw [h1]; simp)), e2⟩, h3⟩
  · obtain ⟨h1, h2, h3⟩ := h.poo j oc q hj hg
    exact ⟨h1.keep k (hF _ (by rw [h2]; simp)) (hF _ (by rw [h3]; simp)), h2, h3⟩
theorem StakesL.mono (h : StakesL sb L n s w) {m : Nat} (hm : n ≤ m) : StakesL sb L m s w :=
  ⟨h.ok, h.top, h.rtop, h.bak, fun k hk hi => by obtain ⟨h1, D, h2, h3⟩ := h.wai k hk hi; exact ⟨h1, D, h2.mono hm, h3⟩, fun k oc q hk hg => by obtain ⟨h1, h2⟩ := h.poo k oc q hk hg; exact ⟨h1.mono hm, h2⟩⟩
theorem StakesL.drewN (h : StakesL sb L n s w) (k : Nat) : StakesL sb L n s (w.drewN k) :=
  ⟨h.ok, h.top.drewN k, h.rtop, fun j hj hi => ⟨(h.bak j hj hi).1.drewN k, (h.bak j hj hi).2⟩, h.wai, fun j oc q hj hg => ⟨(h.poo j oc q hj hg).1.drewN k, (h.poo j oc q hj hg).2⟩⟩

/-- one of the pools has turned -/
theorem StakesL.turn (h : StakesL sb L n s w) {k : Nat} {oc : Option Int} {q q' : QS} {m : Nat} (hk : k < 3) (hg : s.get k oc = some q) (hp : PoolP (L.pb k oc) (L.pm k oc) m q' w w') (hm : n ≤ m) {s' : SS} (hs : s'.Ok)
    (hi : ∀ j : Nat, j < 3 → s'.is j = s.is j) (hget : ∀ j oc', j < 3 → (j = k ∧ oc' = oc → s'.get j oc' = some q') ∧ (¬ (j = k ∧ oc' = oc) → s'.get j oc' = s.get j oc')) : StakesL sb L m s' w' := by
  obtain ⟨-, rb, rm⟩ := h.poo k oc q hk hg
  have hne : ∀ b r, L.role b = r → r ≠ .poo k oc → r ≠ .map k oc → ¬ (b = L.pb k oc ∨ b = L.pm k oc) := by
    intro b r hr h1 h2 hb
    rcases hb with rfl | rfl
    · exact h1 (hr.symm.trans rb)
    · exact h2 (hr.symm.trans rm)
  refine ⟨hs, ?_, h.rtop, fun j hj hij => ?_, fun j hj hij => ?_, fun j oc' r hj hgj => ?_⟩
  · have e : ∀ j, j < 3 → bptr s' L j = bptr s L j := fun j hj => by unfold bptr; rw [hi j hj]
    rw [e 0 (by omega), e 1 (by omega), e 2 (by omega)]
    exact h.top.keep hp.1 (hne sb _ h.rtop (by simp) (by simp))
  · rw [hi j hj] at hij
    obtain ⟨h1, h2⟩ := h.bak j hj hij
    exact ⟨h1.keep hp.1 (hne _ _ h2 (by simp) (by simp)), h2⟩
  · rw [hi j hj] at hij
    obtain ⟨h1, D, h2, h3⟩ := h.wai j hj hij
    obtain ⟨es, clock, e1, e2⟩ := h2.mono hm
    refine ⟨h1, D, ⟨es, clock, hp.1.heap e1 (hne _ _ h1 (by simp) (by simp)), e2⟩, fun c => ?_⟩
    rw [h3 c]
    obtain ⟨g1, g2⟩ := hget j (some c) hj
    unfold waitD
    by_cases hx : j = k ∧ some c = oc
    · have a := g1 hx
      have b : (s.get j (some c)).isSome = true := by obtain ⟨rfl, rfl⟩ := hx; rw [hg]; rfl
      have a' : (s'.find j c).isSome = true := by show (s'.get j (some c)).isSome = true; rw [a]; rfl
      have b' : (s.find j c).isSome = true := b
      rw [a', b']
    · have a := g2 hx
      have a' : s'.find j c = s.find j c := a
      rw [a']
  · obtain ⟨g1, g2⟩ := hget j oc' hj
    by_cases hx : j = k ∧ oc' = oc
    · rw [g1 hx] at hgj
      obtain ⟨rfl, rfl⟩ := hx
      cases hgj
      exact ⟨hp.2, rb, rm⟩
    · rw [g2 hx] at hgj
      obtain ⟨h1, h2, h3⟩ := h.poo j oc' r hj hgj
      refine ⟨(h1.mono hm).keep hp.1 (hne _ _ h2 ?_ ?_) (hne _ _ h3 ?_ ?_), h2, h3⟩
      all_goals (intro e; first | (injection e with e1 e2; exact hx ⟨e1, e2⟩) | cases e)
end

section
variable {sb n : Nat} {F G : Nat → Prop} {s : SS} {w w' : World}
theorem StakesAt.keep (h : StakesAt sb F n s w) (k : Keep G w w') (hG : ∀ b, F b → ¬ G b) : StakesAt sb F n s w' := by
  obtain ⟨L, h1, h2, h3⟩ := h
  exact ⟨L, h1.keep k (fun b hb => hG b (h2 b hb)), h2, fun b hb => Nat.lt_of_lt_of_le (h3 b hb) k.size⟩
theorem StakesAt.drewN (h : StakesAt sb F n s w) (k : Nat) : StakesAt sb F n s (w.drewN k) := by
  obtain ⟨L, h1, h2, h3⟩ := h
  exact ⟨L, h1.drewN k, h2, h3⟩
theorem StakesAt.mono (h : StakesAt sb F n s w) {m : Nat} (hm : n ≤ m) : StakesAt sb F m s w := by
  obtain ⟨L, h1, h2, h3⟩ := h
  exact ⟨L, h1.mono hm, h2, h3⟩
theorem StakesAt.below (h : StakesAt sb F n s w) (k : Below w.heap.size w w') : StakesAt sb F n s w' := h.keep (G := fun _ => False) (Keep.of_below k) (fun _ _ => id)
theorem StakesAt.ok (h : StakesAt sb F n s w) : s.Ok := h.choose_spec.1.ok
end

theorem is_cases {s : SS} (h : s.Ok) (k : Int) : (k < 0 ∧ s.is k = false) ∨ (0 ≤ k ∧ 3 ≤ k ∧ s.is k = false) ∨ ∃ j : Nat, k = j ∧ j < 3 := by
  by_cases h0 : k < 0
  · refine .inl ⟨h0, ?_⟩
    unfold SS.is; rw [SS.pool_out h (.inl h0)]; rfl
  · by_cases h3 : 3 ≤ k
    · refine .inr (.inl ⟨by omega, h3, ?_⟩)
      unfold SS.is; rw [SS.pool_out h (.inr h3)]; rfl
    · exact .inr (.inr ⟨k.toNat, by omega, by omega⟩)

set_option maxHeartbeats 400000 in
theorem stake_Is (sb : Nat) (L : Lay) (n : Nat) (s : SS) (k : Int) (w : World) (h : StakesL sb L n s w) :
    Calls Tryd.prog 22 #[.pointer (some ⟨sb, 0, none⟩), .int .i64 k] w fun e w' => e = .returned (.bool (s.is k)) ∧ w = w' := by
  rcases is_cases h.ok k with ⟨h0, hi⟩ | ⟨h0, h3, hi⟩ | ⟨j, rfl, hj⟩
  · have HI := Lib.hid hi
    clear h hi
    go_enter Tryd.func22, Tryd.ntmps22
    go_wp2
    go_ret
    exact ⟨by rw [HI.out]; rfl, rfl⟩
  · have HI := Lib.hid hi
    clear h hi
    go_enter Tryd.func22, Tryd.ntmps22
    go_wp2
    go_ret
    exact ⟨by rw [HI.out]; rfl, rfl⟩
  · have hc := h.cell hj
    cases hi : s.is (j : Int) with
    | true =>
      rw [bptr_yes hi] at hc
      clear h hi
      go_enter Tryd.func22, Tryd.ntmps22
      go_wp2
      go_ret
      exact ⟨rfl, rfl⟩
    | false =>
      rw [bptr_no hi] at hc
      clear h hi
      go_enter Tryd.func22, Tryd.ntmps22
      go_wp2
      go_ret
      exact ⟨rfl, rfl⟩

/-- a baker's address, and an error -/
theorem stake_baker_yes (sb : Nat) (L : Lay) (n : Nat) (s : SS) (k : Nat) (w : World) (h : StakesL sb L n s w) (hk : k < 3) (hi : s.is k = true) :
    Calls Tryd.prog 24 #[.pointer (some ⟨sb, 0, none⟩), .int .i64 k] w fun e w' => e = .returned (.tuple #[.pointer (some ⟨L.bb k, 0, none⟩), .nilIface]) ∧ w = w' := by
  have hc := h.cell hk
  rw [bptr_yes hi] at hc
  have HI := Lib.hid (stake_Is sb L n s (k : Int) w h)
  rw [hi] at HI
  clear h hi
  go_enter Tryd.func24, Tryd.ntmps24
  go_wp2_with (go_at_call 22; refine HI.out.mono ?_; rintro e w' ⟨rfl, rfl⟩)
  go_ret2
  exact ⟨rfl, rfl⟩
theorem stake_baker_no (A : Nat → Addr) (S : List Nat) (sb : Nat) (L : Lay) (n : Nat) (s : SS) (k : Int) (w : World) (h : StakesL sb L n s w) (hi : s.is k = false) (hE : Errs A S w) (h4 : 4 ∈ S) :
    Calls Tryd.prog 24 #[.pointer (some ⟨sb, 0, none⟩), .int .i64 k] w fun e w' => e = .returned (.tuple #[.pointer none, .iface 181 (.pointer (some (A 4)))]) ∧ Dr w w' := by
  have g4 : w.cell? ⟨2, 0, none⟩ = some (.iface 181 (.pointer (some (A 4)))) := hE.cell 4 h4
  have HI := Lib.hid (stake_Is sb L n s k w h)
  rw [hi] at HI
  clear h hi hE
  go_enter Tryd.func24, Tryd.ntmps24
  go_wp2_with (go_at_call 22; refine HI.out.mono ?_; rintro e w' ⟨rfl, rfl⟩)
  go_quiet (fail)
  go_wp2
  go_ret2
  exact ⟨rfl, _, rfl⟩

theorem SS.is_some {s : SS} {k : Nat} (h : s.is k = true) : ∃ q, s.pool k = some q ∧ s.get k none = some q := by
  obtain ⟨q, hq⟩ : ∃ q, s.pool k = some q := by
    unfold SS.is at h
    cases hp : s.pool k with
    | none => rw [hp] at h; cases h
    | some q => exact ⟨q, rfl⟩
  refine ⟨q, hq, ?_⟩
  have := hq; rw [SS.pool_nat] at this; exact this
theorem SS.is_none {s : SS} {k : Int} (h : s.is k = false) : s.pool k = none := by
  unfold SS.is at h
  cases hp : s.pool k with
  | none => rfl
  | some q => rw [hp] at h; cases h
/-- registered: one of three; else not -/
theorem reg_cases {s : SS} (h : s.Ok) (k : Int) : s.is k = false ∨ ∃ j : Nat, k = j ∧ j < 3 ∧ s.is j = true := by
  cases hi : s.is k with
  | false => exact .inl rfl
  | true =>
    rcases is_cases h k with ⟨_, h2⟩ | ⟨_, _, h2⟩ | ⟨j, rfl, hj⟩
    · rw [hi] at h2; cases h2
    · rw [hi] at h2; cases h2
    · exact .inr ⟨j, rfl, hj, hi⟩

theorem stake_Staked (sb : Nat) (L : Lay) (n : Nat) (s : SS) (k : Int) (w : World) (h : StakesL sb L n s w) :
    Calls Tryd.prog 21 #[.pointer (some ⟨sb, 0, none⟩), .int .i64 k] w fun e w' => e = .returned (.int .i64 (s.staked k)) ∧ w = w' := by
  have HI := Lib.hid (stake_Is sb L n s k w h)
  rcases reg_cases h.ok k with hi | ⟨j, rfl, hj, hi⟩
  · rw [hi] at HI
    have HV := Lib.hid (show s.staked k = 0 by unfold SS.staked; rw [SS.is_none hi]; rfl)
    clear h hi
    go_enter Tryd.func21, Tryd.ntmps21
    go_wp2_with (go_at_call 22; refine HI.out.mono ?_; rintro e w' ⟨rfl, rfl⟩)
    go_ret
    exact ⟨by rw [HV.out]; rfl, rfl⟩
  · rw [hi] at HI
    obtain ⟨q, hq, hg⟩ := SS.is_some hi
    have HV := Lib.hid (show s.staked j = q.total by unfold SS.staked; rw [hq]; rfl)
    have hc := h.cell hj
    rw [bptr_yes hi] at hc
    obtain ⟨c0, c1⟩ := h.baker hj hi
    have HP := Lib.hid (pool_Total _ _ _ _ w (h.poo j none q hj hg).1)
    clear h hi hq hg
    go_enter Tryd.func21, Tryd.ntmps21
    go_wp2_with (first
      | (go_at_call 22; refine HI.out.mono ?_; rintro e w' ⟨rfl, rfl⟩)
      | (go_at_call 34; refine HP.out.mono ?_; rintro e w' ⟨rfl, rfl⟩))
    go_ret
    exact ⟨by rw [HV.out]; rfl, rfl⟩

theorem stake_Value (A : Nat → Addr) (S : List Nat) (sb : Nat) (L : Lay) (n : Nat) (s : SS) (o k : Int) (w : World) (h : StakesL sb L n s w) (hE : Errs A S w) (h2 : 2 ∈ S) (ho : (Lit.int .i64 o).wf = true) :
    Calls Tryd.prog 15 #[.pointer (some ⟨sb, 0, none⟩), .int .i64 o, .int .i64 k] w fun e w' => e = .returned (.int .i64 (s.value o k)) ∧ Dr w w' := by
  have HI := Lib.hid (stake_Is sb L n s k w h)
  rcases reg_cases h.ok k with hi | ⟨j, rfl, hj, hi⟩
  · rw [hi] at HI
    have HV := Lib.hid (show s.value o k = 0 by unfold SS.value; rw [SS.is_none hi]; rfl)
    clear h hi hE
    go_enter Tryd.func15, Tryd.ntmps15
    go_wp2_with (go_at_call 22; refine HI.out.mono ?_; rintro e w' ⟨rfl, rfl⟩)
    go_ret
    exact ⟨by rw [HV.out]; rfl, Dr.refl _⟩
  · rw [hi] at HI
    obtain ⟨q, hq, hg⟩ := SS.is_some hi
    have HV := Lib.hid (show s.value o j = q.value o by unfold SS.value; rw [hq]; rfl)
    have hc := h.cell hj
    rw [bptr_yes hi] at hc
    obtain ⟨c0, c1⟩ := h.baker hj hi
    have HP := Lib.hid (pool_Value A S _ _ _ _ o w hE h2 (h.poo j none q hj hg).1 ho)
    clear h hi hq hg hE ho
    go_enter Tryd.func15, Tryd.ntmps15
    go_wp2_with (first
      | (go_at_call 22; refine HI.out.mono ?_; rintro e w' ⟨rfl, rfl⟩)
      | (go_at_call 31; refine HP.out.mono ?_; rintro e w' ⟨rfl, d, rfl⟩))
    go_ret
    exact ⟨by rw [HV.out]; rfl, d, rfl⟩
end Go.Proofs.YtajnfkmkombajacDoor
namespace Go.Proofs.YtajnfkmkombajacDoor
open Go.RowKit Go.Maps

/-- F, and whatever is new between the two worlds -/
def grownF (F : Nat → Prop) (w w' : World) : Nat → Prop := fun k => F k ∨ (w.heap.size ≤ k ∧ k < w'.heap.size)
/-- the stakes may have turned -/
def StakesP (sb : Nat) (F : Nat → Prop) (n : Nat) (s : SS) (w w' : World) : Prop := Keep F w w' ∧ StakesAt sb (grownF F w w') n s w'

theorem StakesAt.foot {sb n : Nat} {F G : Nat → Prop} {s : SS} {w : World} (h : StakesAt sb F n s w) (hG : ∀ b, F b → G b) (hlt : ∀ b, G b → b < w.heap.size) : StakesAt sb G n s w := by
  obtain ⟨L, h1, h2, h3⟩ := h
  exact ⟨L, h1, fun b hb => hG b (h2 b hb), hlt⟩
theorem grownF_lt {F : Nat → Prop} {w w' : World} (hF : ∀ b, F b → b < w.heap.size) (hs : w.heap.size ≤ w'.heap.size) : ∀ b, grownF F w w' b → b < w'.heap.size := fun b hb => by
  rcases hb with hb | hb
  · exact Nat.lt_of_lt_of_le (hF b hb) hs
  · exact hb.2
theorem StakesAt.lt {sb n : Nat} {F : Nat → Prop} {s : SS} {w : World} (h : StakesAt sb F n s w) {b : Nat} (hb : F b) : b < w.heap.size := h.choose_spec.2.2 b hb
theorem StakesP.refl {sb n : Nat} {F : Nat → Prop} {s : SS} {w : World} (h : StakesAt sb F n s w) : StakesP sb F n s w w := ⟨Keep.refl _ _, h.foot (fun _ hb => .inl hb) (fun b hb => by rcases hb with hb | hb; exact h.lt hb; omega)⟩
theorem StakesP.drewN {sb n : Nat} {F : Nat → Prop} {s : SS} {w w' : World} (h : StakesP sb F n s w w') (k : Nat) : StakesP sb F n s w (w'.drewN k) := ⟨h.1.drewN k, h.2.drewN k⟩
theorem StakesP.mono {sb n m : Nat} {F : Nat → Prop} {s : SS} {w w' : World} (h : StakesP sb F n s w w') (hm : n ≤ m) : StakesP sb F m s w w' := ⟨h.1, h.2.mono hm⟩

/-- a turn of one pool, as the whole stakes see it -/
theorem StakesL.turned {sb n m : Nat} {F : Nat → Prop} {L : Lay} {s s' : SS} {w w' : World} (h : StakesL sb L n s w) (hF : ∀ b, L.role b ≠ .none → F b) (hlt : ∀ b, F b → b < w.heap.size) {k : Nat} {oc : Option Int} {q q' : QS}
    (hk : k < 3) (hg : s.get k oc = some q) (hp : PoolP (L.pb k oc) (L.pm k oc) m q' w w') (hm : n ≤ m) (hs : s'.Ok)
    (hi : ∀ j : Nat, j < 3 → s'.is j = s.is j) (hget : ∀ j oc', j < 3 → (j = k ∧ oc' = oc → s'.get j oc' = some q') ∧ (¬ (j = k ∧ oc' = oc) → s'.get j oc' = s.get j oc')) : StakesP sb F m s' w w' := by
  obtain ⟨-, rb, rm⟩ := h.poo k oc q hk hg
  have hb : F (L.pb k oc) := hF _ (by rw [rb]; simp)
  have hmm : F (L.pm k oc) := hF _ (by rw [rm]; simp)
  exact ⟨hp.1.mono (fun i hi' => by rcases hi' with rfl | rfl; exact hb; exact hmm), L, h.turn hk hg hp hm hs hi hget, fun b hb' => .inl (hF b hb'), grownF_lt hlt hp.1.size⟩

theorem SS.setP_get {s : SS} (h : s.Ok) {k : Nat} (hk : k < 3) (q' : QS) : (∀ j : Nat, j < 3 → s.is k = true → (s.setP k q').is j = s.is j) ∧ ∀ j oc, j < 3 → (j = k ∧ oc = none → (s.setP k q').get j oc = some q') ∧ (¬ (j = k ∧ oc = none) → (s.setP k q').get j oc = s.get j oc) := by
  refine ⟨fun j hj hi => ?_, fun j oc hj => ⟨?_, fun hne => ?_⟩⟩
  · unfold SS.is at hi ⊢
    rw [SS.pool_setP h (by omega) (by omega)]
    split
    · next e => rw [e, hi]; rfl
    · rfl
  · rintro ⟨rfl, rfl⟩
    show (s.setP j q').P.getD j none = some q'
    rw [← SS.pool_nat, SS.pool_setP h (by omega) (by omega), if_pos rfl]
  · cases oc with
    | some c => rfl
    | none =>
      show (s.setP k q').P.getD j none = s.P.getD j none
      rw [← SS.pool_nat, ← SS.pool_nat, SS.pool_setP h (by omega) (by omega), if_neg (fun e => hne ⟨by omega, rfl⟩)]

/-- the new stakes -/
theorem stake_New (w : World) : Calls Tryd.prog 6 #[] w fun e w' => e = .returned (.pointer (some ⟨w.heap.size, 0, none⟩)) ∧ Below w.heap.size w w' ∧ StakesAt w.heap.size (fun k => k = w.heap.size) 0 SS.new w' := by
  go_enter Tryd.func6, Tryd.ntmps6
  go_wp2
  go_ret
  refine ⟨rfl, (Below.refl _ _).alloc (Nat.le_refl _) _, ⟨fun _ => 0, fun _ => 0, fun _ _ => 0, fun _ _ => 0, fun b => if b = w.heap.size then .top else .none⟩, ⟨SS.new_ok, ?_, by simp, fun k hk hi => ?_, fun k hk hi => ?_, fun k oc q hk hg => ?_⟩, fun b hb => ?_, fun b hb => by rw [hb]; simp⟩
  · exact RowAt.new w 49 [.pointer none, .pointer none, .pointer none]
  · match k, hk with
    | 0, _ => cases hi
    | 1, _ => cases hi
    | 2, _ => cases hi
  · match k, hk with
    | 0, _ => cases hi
    | 1, _ => cases hi
    | 2, _ => cases hi
  · cases oc with
    | none =>
      match k, hk with
      | 0, _ => cases hg
      | 1, _ => cases hg
      | 2, _ => cases hg
    | some c => cases hg
  · by_cases e : b = w.heap.size
    · exact e
    · simp [e] at hb

theorem stake_join_no {s : SS} {o k n : Int} (h : s.is k = false) : s.joinOp o k n = (4, s) := by unfold SS.joinOp; rw [SS.is_none h]
theorem stake_join_yes {s : SS} {o k n : Int} {q : QS} (h : s.pool k = some q) : s.joinOp o k n = ((q.joinOp o n).1, s.setP k (q.joinOp o n).2) := by unfold SS.joinOp; rw [h]
theorem stake_add_no {s : SS} {k n : Int} (h : s.is k = false) : s.addOp k n = (4, s) := by unfold SS.addOp; rw [SS.is_none h]
theorem stake_add_yes {s : SS} {k n : Int} {q : QS} (h : s.pool k = some q) : s.addOp k n = ((q.addOp n).1, s.setP k (q.addOp n).2) := by unfold SS.addOp; rw [h]

theorem stake_Join (A : Nat → Addr) (S : List Nat) (sb : Nat) (F : Nat → Prop) (m : Nat) (s : SS) (o k n : Int) (w : World) (h : StakesAt sb F m s w) (hE : Errs A S w) (h2 : 2 ∈ S) (h4 : 4 ∈ S) (h7 : 7 ∈ S) (h8 : 8 ∈ S) (hm : m < maxLen) :
    Calls Tryd.prog 8 #[.pointer (some ⟨sb, 0, none⟩), .int .i64 o, .int .i64 k, .int .i64 n] w fun e w' => e = .returned (ev A (s.joinOp o k n).1) ∧ StakesP sb F (m + 1) (s.joinOp o k n).2 w w' := by
  obtain ⟨L, hL, hF, hlt⟩ := h
  rcases reg_cases hL.ok k with hi | ⟨j, rfl, hj, hi⟩
  · have E := Lib.hid (stake_join_no (o := o) (n := n) hi)
    have HB := Lib.hid (stake_baker_no A S sb L m s k w hL hi hE h4)
    have HS := Lib.hid (StakesP.refl (F := F) ⟨L, hL, hF, hlt⟩)
    clear hL hF hlt hi hE
    go_enter Tryd.func8, Tryd.ntmps8
    go_wp2_with (go_at_call 24; refine HB.out.mono ?_; rintro e w' ⟨rfl, d, rfl⟩)
    go_ret
    rw [E.out]
    exact ⟨rfl, (HS.out.mono (Nat.le_succ m)).drewN d⟩
  · obtain ⟨q, hq, hg⟩ := SS.is_some hi
    have E := Lib.hid (stake_join_yes (o := o) (n := n) hq)
    have HB := Lib.hid (stake_baker_yes sb L m s j w hL hj hi)
    obtain ⟨c0, c1⟩ := hL.baker hj hi
    have HJ := Lib.hid (pool_Join A S _ _ m q o n w hE h2 h7 h8 (hL.poo j none q hj hg).1 hm)
    have hok := SS.joinOp_ok hL.ok o j n
    rw [stake_join_yes hq] at hok
    obtain ⟨g1, g2⟩ := SS.setP_get hL.ok hj (q.joinOp o n).2
    have HT := Lib.hid (fun w' (hp : PoolP (L.pb j none) (L.pm j none) (m + 1) (q.joinOp o n).2 w w') => hL.turned hF hlt hj hg hp (Nat.le_succ m) hok (fun j' hj' => g1 j' hj' hi) g2)
    clear hL hF hlt hi hE hq hg hok g1 g2
    go_enter Tryd.func8, Tryd.ntmps8
    go_wp2_with (first
      | (go_at_call 24; refine HB.out.mono ?_; rintro e w' ⟨rfl, rfl⟩)
      | (go_at_call 25; refine HJ.out.mono ?_; rintro e w' ⟨rfl, hp⟩))
    go_ret
    rw [E.out]
    exact ⟨rfl, HT.out _ hp⟩

theorem stake_Add (A : Nat → Addr) (S : List Nat) (sb : Nat) (F : Nat → Prop) (m : Nat) (s : SS) (k n : Int) (w : World) (h : StakesAt sb F m s w) (hE : Errs A S w) (h2 : 2 ∈ S) (h4 : 4 ∈ S) :
    Calls Tryd.prog 86 #[.pointer (some ⟨sb, 0, none⟩), .int .i64 k, .int .i64 n] w fun e w' => e = .returned (ev A (s.addOp k n).1) ∧ StakesP sb F (m + 1) (s.addOp k n).2 w w' := by
  obtain ⟨L, hL, hF, hlt⟩ := h
  rcases reg_cases hL.ok k with hi | ⟨j, rfl, hj, hi⟩
  · have E := Lib.hid (stake_add_no (n := n) hi)
    have HB := Lib.hid (stake_baker_no A S sb L m s k w hL hi hE h4)
    have HS := Lib.hid (StakesP.refl (F := F) ⟨L, hL, hF, hlt⟩)
    clear hL hF hlt hi hE
    go_enter Tryd.func86, Tryd.ntmps86
    go_wp2_with (go_at_call 24; refine HB.out.mono ?_; rintro e w' ⟨rfl, d, rfl⟩)
    go_ret
    rw [E.out]
    exact ⟨rfl, (HS.out.mono (Nat.le_succ m)).drewN d⟩
  · obtain ⟨q, hq, hg⟩ := SS.is_some hi
    have E := Lib.hid (stake_add_yes (n := n) hq)
    have HB := Lib.hid (stake_baker_yes sb L m s j w hL hj hi)
    obtain ⟨c0, c1⟩ := hL.baker hj hi
    have HJ := Lib.hid (pool_Add A S _ _ m q n w hE h2 h4 (hL.poo j none q hj hg).1)
    have hok := SS.addOp_ok hL.ok j n
    rw [stake_add_yes hq] at hok
    obtain ⟨g1, g2⟩ := SS.setP_get hL.ok hj (q.addOp n).2
    have HT := Lib.hid (fun w' (hp : PoolP (L.pb j none) (L.pm j none) (m + 1) (q.addOp n).2 w w') => hL.turned hF hlt hj hg hp (Nat.le_succ m) hok (fun j' hj' => g1 j' hj' hi) g2)
    clear hL hF hlt hi hE hq hg hok g1 g2
    go_enter Tryd.func86, Tryd.ntmps86
    go_wp2_with (first
      | (go_at_call 24; refine HB.out.mono ?_; rintro e w' ⟨rfl, rfl⟩)
      | (go_at_call 113; refine HJ.out.mono ?_; rintro e w' ⟨rfl, hp⟩))
    go_ret
    rw [E.out]
    exact ⟨rfl, HT.out _ hp⟩
end Go.Proofs.YtajnfkmkombajacDoor
