/-
  Stakes as plain numbers: what each call of package stake answers and leaves. No program in sight.
  Plain: what all pools of stakes hold together, act by act. No program in sight.
  Plain: bends. No program in sight.
  Plain: what package issue reckons. No program in sight.
-/
import Derived.Test.YtajnfkmkombajabGreatDoorQSR04
import Derived.Test.YtajnfkmkombajabGreatDoorQSR01
set_option linter.unusedVariables false
set_option linter.unusedSimpArgs false
set_option linter.unusedVariables false
namespace Go.Proofs.YtajnfkmkombajabGreatDoor
open Go.RowKit

/-- what waits: which baker's, since which cycle, its pool -/
structure WP where
  b : Int
  c : Int
  q : QS
/-- pools of the bakers (none: not registered), and what waits -/
structure SS where
  P : List (Option QS)
  W : List WP

def SS.new : SS := ⟨[none, none, none], []⟩
def SS.pool (s : SS) (k : Int) : Option QS := if 0 ≤ k then s.P.getD k.toNat none else none
def SS.is (s : SS) (k : Int) : Bool := (s.pool k).isSome
def WP.at (x : WP) (k c : Int) : Bool := x.b == k && x.c == c
def SS.find (s : SS) (k c : Int) : Option QS := (s.W.find? (·.at k c)).map (·.q)
/-- the pool of baker k: its own (none), or what waits since a cycle -/
def SS.get (s : SS) (k : Nat) : Option Int → Option QS
  | none => s.P.getD k none
  | some c => s.find k c

structure SS.Ok (s : SS) : Prop where
  three : s.P.length = 3
  pools : ∀ q, some q ∈ s.P → q.Ok
  waits : ∀ x ∈ s.W, x.q.Ok ∧ s.is x.b = true ∧ 0 ≤ x.c ∧ x.c ≤ 1048576
  apart : s.W.Pairwise fun x y => ¬ (x.b = y.b ∧ x.c = y.c)

def SS.setP (s : SS) (k : Int) (q : QS) : SS := ⟨s.P.set k.toNat (some q), s.W⟩
/-- what waits at (k, c) is q now -/
def WP.put (k c : Int) (q : QS) (x : WP) : WP := if x.at k c then ⟨x.b, x.c, q⟩ else x
def SS.setW (s : SS) (k c : Int) (q : QS) : SS := ⟨s.P, if (s.find k c).isSome then s.W.map (WP.put k c q) else s.W ++ [⟨k, c, q⟩]⟩

def cycleC (c : Int) : Nat := if c < 0 ∨ 1048576 < c then 2 else 0

def SS.regOp (s : SS) (k : Int) : Nat × SS := if k < 0 ∨ 3 ≤ k then (2, s) else if s.is k then (5, s) else (0, s.setP k QS.new)
def SS.joinOp (s : SS) (o k n : Int) : Nat × SS :=
  match s.pool k with
  | none => (4, s)
  | some q => ((q.joinOp o n).1, s.setP k (q.joinOp o n).2)
def SS.leaveOp (s : SS) (o k n c : Int) : Nat × SS :=
  match s.pool k with
  | none => (4, s)
  | some q =>
    if cycleC c ≠ 0 then (2, s) else if (q.takeOp o n).1 ≠ 0 then ((q.takeOp o n).1, s)
    else
      let v := (s.find k c).getD QS.new
      if (v.joinOp o n).1 ≠ 0 then ((v.joinOp o n).1, s) else (0, (s.setP k (q.takeOp o n).2).setW k c (v.joinOp o n).2)
/-- may what waits be had in this cycle? -/
def WP.free (c : Int) (x : WP) : Bool := decide (x.c + 2 < c)
def WP.left (o c : Int) (x : WP) : WP := if x.free c then ⟨x.b, x.c, (x.q.leaveOp o).2.2⟩ else x
def WP.gets (o c : Int) (x : WP) : Int := if x.free c then (if (x.q.leaveOp o).2.1 = 0 then (x.q.leaveOp o).1 else 0) else 0
def WP.has (o c : Int) (x : WP) : Bool := x.free c && (x.q.leaveOp o).2.1 == 0
def SS.freeOp (s : SS) (o c : Int) : Int × Nat × SS :=
  if cycleC c ≠ 0 ∨ ownB o = false then (0, 2, s)
  else if s.W.any (·.has o c) then ((s.W.map (·.gets o c)).sum, 0, ⟨s.P, s.W.map (·.left o c)⟩) else (0, 4, ⟨s.P, s.W.map (·.left o c)⟩)
def SS.addOp (s : SS) (k n : Int) : Nat × SS :=
  match s.pool k with
  | none => (4, s)
  | some q => ((q.addOp n).1, s.setP k (q.addOp n).2)
/-- is it slashed with baker k's, from a cycle on? -/
def WP.hit (k f : Int) (x : WP) : Bool := x.b == k && decide (f ≤ x.c)
def WP.slash (k f p : Int) (x : WP) : WP := if x.hit k f then ⟨x.b, x.c, (x.q.slashOp p).2.2⟩ else x
def WP.loses (k f p : Int) (x : WP) : Int := if x.hit k f then (x.q.slashOp p).1 else 0
def SS.slashOp (s : SS) (k f p : Int) : Int × Nat × SS :=
  match s.pool k with
  | none => (0, 4, s)
  | some q => if (q.slashOp p).2.1 ≠ 0 then (0, (q.slashOp p).2.1, s) else ((q.slashOp p).1 + (s.W.map (·.loses k f p)).sum, 0, ⟨s.P.set k.toNat (some (q.slashOp p).2.2), s.W.map (·.slash k f p)⟩)
def SS.staked (s : SS) (k : Int) : Int := ((s.pool k).map (·.total)).getD 0
def SS.value (s : SS) (o k : Int) : Int := ((s.pool k).map (·.value o)).getD 0
def SS.waits (s : SS) (o k c : Int) : Int := ((s.find k c).map (·.value o)).getD 0
def optT (o : Option QS) : Int := (o.map (·.total)).getD 0
def SS.total (s : SS) : Int := (s.P.map optT).sum + (s.W.map (·.q.total)).sum

/-! ### what stays right -/

theorem SS.new_ok : SS.new.Ok := ⟨rfl, (fun q h => by simp [SS.new] at h), (fun x h => by cases h), List.Pairwise.nil⟩

theorem SS.Ok.lt {s : SS} (h : s.Ok) {k : Int} {q : QS} (hk : s.pool k = some q) : 0 ≤ k ∧ k < 3 := by
  unfold SS.pool at hk
  split at hk
  · next h0 =>
    refine ⟨h0, ?_⟩
    apply Decidable.byContradiction
    intro h3
    rw [List.getD_eq_getElem?_getD, List.getElem?_eq_none (by rw [h.three]; omega)] at hk
    cases hk
  · cases hk
theorem SS.Ok.at {s : SS} (h : s.Ok) {k : Int} {q : QS} (hk : s.pool k = some q) : s.P[k.toNat]? = some (some q) := by
  have hl := h.lt hk
  unfold SS.pool at hk
  rw [if_pos hl.1, List.getD_eq_getElem?_getD] at hk
  have : k.toNat < s.P.length := by rw [h.three]; omega
  rw [List.getElem?_eq_getElem this] at hk ⊢
  exact congrArg some hk
theorem SS.Ok.poolOk {s : SS} (h : s.Ok) {k : Int} {q : QS} (hk : s.pool k = some q) : q.Ok := h.pools q (List.mem_of_getElem? (h.at hk))
theorem SS.pool_nat {s : SS} {k : Nat} : s.pool (k : Int) = s.P.getD k none := by unfold SS.pool; rw [if_pos (by omega)]; rfl
theorem SS.pool_out {s : SS} (h : s.Ok) {k : Int} (hk : k < 0 ∨ 3 ≤ k) : s.pool k = none := by
  cases hp : s.pool k with
  | none => rfl
  | some q => have := h.lt hp; omega

theorem SS.pool_setP {s : SS} (h : s.Ok) {k : Int} (h0 : 0 ≤ k) (h3 : k < 3) (q : QS) (j : Int) : (s.setP k q).pool j = if j = k then some q else s.pool j := by
  unfold SS.pool SS.setP
  by_cases hj : 0 ≤ j
  · rw [if_pos hj, if_pos hj]
    simp only [List.getD_eq_getElem?_getD, List.getElem?_set]
    by_cases e : j = k
    · subst e; rw [if_pos rfl, if_pos rfl, if_pos (by rw [h.three]; omega)]; rfl
    · rw [if_neg (by omega), if_neg e]
  · rw [if_neg hj, if_neg hj, if_neg (by omega)]
theorem SS.is_setP {s : SS} (h : s.Ok) {k : Int} (h0 : 0 ≤ k) (h3 : k < 3) (q : QS) {j : Int} (hj : s.is j = true) : (s.setP k q).is j = true := by
  unfold SS.is; rw [SS.pool_setP h h0 h3]
  split
  · rfl
  · exact hj
theorem SS.Ok.setP {s : SS} (h : s.Ok) {k : Int} (h0 : 0 ≤ k) (h3 : k < 3) {q : QS} (hq : q.Ok) : (s.setP k q).Ok := by
  refine ⟨by simp [SS.setP, h.three], fun r hr => ?_, fun x hx => ?_, h.apart⟩
  · rcases List.mem_or_eq_of_mem_set hr with hr | hr
    · exact h.pools r hr
    · cases hr; exact hq
  · obtain ⟨w1, w2, w3⟩ := h.waits x hx
    exact ⟨w1, SS.is_setP h h0 h3 q w2, w3⟩

theorem WP.at_iff {x : WP} {k c : Int} : x.at k c = true ↔ x.b = k ∧ x.c = c := by unfold WP.at; simp
theorem SS.find_some {s : SS} {k c : Int} {q : QS} (h : s.find k c = some q) : ⟨k, c, q⟩ ∈ s.W := by
  unfold SS.find at h
  obtain ⟨x, hx, rfl⟩ := Option.map_eq_some_iff.1 h
  have h1 := List.find?_some hx
  obtain ⟨rfl, rfl⟩ := WP.at_iff.1 h1
  exact List.mem_of_find?_eq_some hx
theorem SS.find_mem {s : SS} (h : s.W.Pairwise fun x y => ¬ (x.b = y.b ∧ x.c = y.c)) {x : WP} (hx : x ∈ s.W) : s.find x.b x.c = some x.q := by
  unfold SS.find
  cases hf : s.W.find? (·.at x.b x.c) with
  | none =>
    have := List.find?_eq_none.1 hf x hx
    exact absurd (WP.at_iff.2 ⟨rfl, rfl⟩) this
  | some y =>
    have h1 := WP.at_iff.1 (List.find?_some (p := fun z : WP => z.at x.b x.c) hf)
    have hy := List.mem_of_find?_eq_some hf
    have : x = y := by
      apply Classical.byContradiction
      intro hne
      have hp : ∀ (l : List WP), l.Pairwise (fun x y => ¬ (x.b = y.b ∧ x.c = y.c)) → x ∈ l → y ∈ l → False := by
        intro l hl
        induction l with
        | nil => intro h; cases h
        | cons a r ih =>
          intro h1' h2'
          obtain ⟨p1, p2⟩ := List.pairwise_cons.1 hl
          rcases List.mem_cons.1 h1' with e1 | e1
          · rcases List.mem_cons.1 h2' with e2 | e2
            · exact hne (e1.trans e2.symm)
            · subst e1; exact p1 y e2 ⟨h1.1.symm, h1.2.symm⟩
          · rcases List.mem_cons.1 h2' with e2 | e2
            · subst e2; exact p1 x e1 ⟨h1.1, h1.2⟩
            · exact ih p2 e1 e2
      exact hp s.W h hx hy
    subst this; rfl
theorem SS.find_none {s : SS} {k c : Int} (h : s.find k c = none) : ∀ x ∈ s.W, ¬ (x.b = k ∧ x.c = c) := by
  unfold SS.find at h
  have := List.find?_eq_none.1 (Option.map_eq_none_iff.1 h)
  intro x hx hxx
  exact this x hx (WP.at_iff.2 hxx)
theorem SS.Ok.findOk {s : SS} (h : s.Ok) {k c : Int} {q : QS} (hf : s.find k c = some q) : q.Ok := (h.waits _ (SS.find_some hf)).1

theorem WP.put_b (k c : Int) (q : QS) (x : WP) : (WP.put k c q x).b = x.b ∧ (WP.put k c q x).c = x.c := by unfold WP.put; split <;> exact ⟨rfl, rfl⟩
theorem pairwise_map_same {l : List WP} {f : WP → WP} (hf : ∀ x, (f x).b = x.b ∧ (f x).c = x.c) (h : l.Pairwise fun x y => ¬ (x.b = y.b ∧ x.c = y.c)) : (l.map f).Pairwise fun x y => ¬ (x.b = y.b ∧ x.c = y.c) := by
  rw [List.pairwise_map]
  exact h.imp fun {a b} hab => by rw [(hf a).1, (hf a).2, (hf b).1, (hf b).2]; exact hab
theorem find_map_same {l : List WP} {f : WP → WP} (hf : ∀ x, (f x).b = x.b ∧ (f x).c = x.c) (k c : Int) : (l.map f).find? (·.at k c) = (l.find? (·.at k c)).map f := by
  induction l with
  | nil => rfl
  | cons a r ih =>
    have e : (f a).at k c = a.at k c := by unfold WP.at; rw [(hf a).1, (hf a).2]
    simp only [List.map_cons, List.find?_cons, e]
    split
    · rfl
    · exact ih

theorem SS.find_setW {s : SS} (k c : Int) (q : QS) (k' c' : Int) : (s.setW k c q).find k' c' = if k' = k ∧ c' = c then some q else s.find k' c' := by
  unfold SS.setW
  split
  · next hs =>
    unfold SS.find
    simp only
    rw [find_map_same (WP.put_b k c q)]
    by_cases e : k' = k ∧ c' = c
    · obtain ⟨rfl, rfl⟩ := e
      rw [if_pos ⟨rfl, rfl⟩]
      unfold SS.find at hs
      cases hf : s.W.find? (·.at k' c') with
      | none => rw [hf] at hs; cases hs
      | some y =>
        have := List.find?_some hf
        simp only [Option.map_some]
        unfold WP.put; rw [if_pos this]
    · rw [if_neg e]
      cases hf : s.W.find? (·.at k' c') with
      | none => rfl
      | some y =>
        have h1 := WP.at_iff.1 (List.find?_some (p := fun z : WP => z.at k' c') hf)
        simp only [Option.map_some]
        unfold WP.put; rw [if_neg]
        intro h2; have h3 := WP.at_iff.1 h2
        exact e ⟨by omega, by omega⟩
  · next hs =>
    unfold SS.find at hs ⊢
    simp only [List.find?_append]
    by_cases e : k' = k ∧ c' = c
    · obtain ⟨rfl, rfl⟩ := e
      rw [if_pos ⟨rfl, rfl⟩]
      cases hf : s.W.find? (·.at k' c') with
      | none => simp [WP.at]
      | some y => rw [hf] at hs; simp at hs
    · rw [if_neg e]
      cases hf : s.W.find? (·.at k' c') with
      | none =>
        have : (WP.mk k c q).at k' c' = false := by
          cases hx : (WP.mk k c q).at k' c' with
          | false => rfl
          | true => have := WP.at_iff.1 hx; simp only at this; exact absurd ⟨this.1.symm, this.2.symm⟩ e
        simp [this]
      | some y => simp

theorem SS.Ok.setW {s : SS} (h : s.Ok) {k c : Int} {q : QS} (hq : q.Ok) (hk : s.is k = true) (h0 : 0 ≤ c) (h1 : c ≤ 1048576) : (s.setW k c q).Ok := by
  unfold SS.setW
  split
  · next hs =>
    refine ⟨h.three, h.pools, fun x hx => ?_, pairwise_map_same (WP.put_b k c q) h.apart⟩
    obtain ⟨y, hy, rfl⟩ := List.mem_map.1 hx
    obtain ⟨w1, w2, w3, w4⟩ := h.waits y hy
    rw [(WP.put_b k c q y).1, (WP.put_b k c q y).2]
    refine ⟨?_, w2, w3, w4⟩
    unfold WP.put; split
    · exact hq
    · exact w1
  · next hs =>
    refine ⟨h.three, h.pools, fun x hx => ?_, ?_⟩
    · rcases List.mem_append.1 hx with hx | hx
      · exact h.waits x hx
      · obtain rfl := List.mem_singleton.1 hx
        exact ⟨hq, hk, h0, h1⟩
    · rw [List.pairwise_append]
      refine ⟨h.apart, List.pairwise_singleton _ _, fun x hx y hy => ?_⟩
      obtain rfl := List.mem_singleton.1 hy
      have hn : s.find k c = none := by cases hf : s.find k c with
        | none => rfl
        | some z => rw [hf] at hs; simp at hs
      exact SS.find_none hn x hx
theorem SS.Ok.mapW {s : SS} (h : s.Ok) {f : WP → WP} (hf : ∀ x, (f x).b = x.b ∧ (f x).c = x.c) (hq : ∀ x, x.q.Ok → (f x).q.Ok) : (SS.mk s.P (s.W.map f)).Ok := by
  refine ⟨h.three, h.pools, fun x hx => ?_, pairwise_map_same hf h.apart⟩
  obtain ⟨y, hy, rfl⟩ := List.mem_map.1 hx
  obtain ⟨w1, w2, w3⟩ := h.waits y hy
  rw [(hf y).1, (hf y).2]
  exact ⟨hq y w1, w2, w3⟩

theorem WP.left_b (o c : Int) (x : WP) : (x.left o c).b = x.b ∧ (x.left o c).c = x.c := by unfold WP.left; split <;> exact ⟨rfl, rfl⟩
theorem WP.left_ok (o c : Int) (x : WP) (h : x.q.Ok) : (x.left o c).q.Ok := by unfold WP.left; split; exact QS.leaveOp_ok h o; exact h
theorem WP.slash_b (k f p : Int) (x : WP) : (x.slash k f p).b = x.b ∧ (x.slash k f p).c = x.c := by unfold WP.slash; split <;> exact ⟨rfl, rfl⟩
theorem WP.slash_ok (k f p : Int) (x : WP) (h : x.q.Ok) : (x.slash k f p).q.Ok := by unfold WP.slash; split; exact QS.slashOp_ok h p; exact h

theorem cycleC_zero {c : Int} : cycleC c = 0 ↔ 0 ≤ c ∧ c ≤ 1048576 := by unfold cycleC; split <;> constructor <;> intro h <;> simp_all <;> omega

theorem SS.regOp_ok {s : SS} (h : s.Ok) (k : Int) : (s.regOp k).2.Ok := by
  unfold SS.regOp
  split
  · exact h
  · split
    · exact h
    · exact h.setP (by omega) (by omega) QS.new_ok
theorem SS.joinOp_ok {s : SS} (h : s.Ok) (o k n : Int) : (s.joinOp o k n).2.Ok := by
  unfold SS.joinOp
  cases hp : s.pool k with
  | none => exact h
  | some q => have := h.lt hp; exact h.setP this.1 this.2 (QS.joinOp_ok (h.poolOk hp) o n)
theorem SS.addOp_ok {s : SS} (h : s.Ok) (k n : Int) : (s.addOp k n).2.Ok := by
  unfold SS.addOp
  cases hp : s.pool k with
  | none => exact h
  | some q => have := h.lt hp; exact h.setP this.1 this.2 (QS.addOp_ok (h.poolOk hp) n)
theorem SS.findOr_ok {s : SS} (h : s.Ok) (k c : Int) : ((s.find k c).getD QS.new).Ok := by
  cases hf : s.find k c with
  | none => exact QS.new_ok
  | some q => exact h.findOk hf
theorem SS.leaveOp_ok {s : SS} (h : s.Ok) (o k n c : Int) : (s.leaveOp o k n c).2.Ok := by
  unfold SS.leaveOp
  cases hp : s.pool k with
  | none => exact h
  | some q =>
    have hl := h.lt hp
    simp only
    split
    · exact h
    · next hc =>
      obtain ⟨c0, c1⟩ := cycleC_zero.1 (Decidable.not_not.1 hc)
      split
      · exact h
      · split
        · exact h
        · refine (h.setP hl.1 hl.2 (QS.takeOp_ok (h.poolOk hp) o n)).setW (QS.joinOp_ok (SS.findOr_ok h k c) o n) ?_ c0 c1
          unfold SS.is; rw [SS.pool_setP h hl.1 hl.2, if_pos rfl]; rfl
theorem SS.freeOp_ok {s : SS} (h : s.Ok) (o c : Int) : (s.freeOp o c).2.2.Ok := by
  have := h.mapW (WP.left_b o c) (WP.left_ok o c)
  unfold SS.freeOp
  split
  · exact h
  · split <;> exact this
theorem SS.slashOp_ok {s : SS} (h : s.Ok) (k f p : Int) : (s.slashOp k f p).2.2.Ok := by
  unfold SS.slashOp
  cases hp : s.pool k with
  | none => exact h
  | some q =>
    have hl := h.lt hp
    simp only
    split
    · exact h
    · exact (h.setP hl.1 hl.2 (QS.slashOp_ok (h.poolOk hp) p)).mapW (WP.slash_b k f p) (WP.slash_ok k f p)
end Go.Proofs.YtajnfkmkombajabGreatDoor
namespace Go.Proofs.YtajnfkmkombajabGreatDoor
open Go.RowKit

theorem sum_map_set {α : Type} (f : α → Int) : ∀ (l : List α) (i : Nat) (a b : α), l[i]? = some a → ((l.set i b).map f).sum = (l.map f).sum - f a + f b
  | [], i, a, b, h => by simp at h
  | x :: r, 0, a, b, h => by simp at h; subst h; simp; omega
  | x :: r, i + 1, a, b, h => by
    have := sum_map_set f r i a b (by simpa using h)
    simp only [List.set_cons_succ, List.map_cons, List.sum_cons, this]; omega
theorem sum_map_add {α : Type} (f g h : α → Int) (l : List α) (hh : ∀ x ∈ l, f x = g x + h x) : (l.map f).sum = (l.map g).sum + (l.map h).sum := by
  induction l with
  | nil => rfl
  | cons a r ih =>
    have h1 := hh a (by simp); have h2 := ih (fun x hx => hh x (by simp [hx]))
    simp only [List.map_cons, List.sum_cons]; omega

theorem SS.total_setP {s : SS} (h : s.Ok) {k : Int} {q : QS} (hk : s.pool k = some q) (q' : QS) : (s.setP k q').total = s.total - q.total + q'.total := by
  unfold SS.total SS.setP
  simp only [sum_map_set optT s.P k.toNat (some q) (some q') (h.at hk)]
  simp only [optT, Option.map_some, Option.getD_some]; omega
theorem SS.total_reg {s : SS} (h : s.Ok) {k : Int} (h0 : 0 ≤ k) (h3 : k < 3) (hk : s.pool k = none) (q' : QS) : (s.setP k q').total = s.total + q'.total := by
  have hat : s.P[k.toNat]? = some none := by
    unfold SS.pool at hk
    rw [if_pos h0, List.getD_eq_getElem?_getD, List.getElem?_eq_getElem (by rw [h.three]; omega)] at hk
    rw [List.getElem?_eq_getElem (by rw [h.three]; omega)]; exact congrArg some hk
  unfold SS.total SS.setP
  simp only [sum_map_set optT s.P k.toNat none (some q') hat]
  simp only [optT, Option.map_some, Option.map_none, Option.getD_some, Option.getD_none]; omega

theorem sum_put : ∀ (l : List WP) (k c : Int) (q q' : QS), (l.Pairwise fun x y => ¬ (x.b = y.b ∧ x.c = y.c)) → ⟨k, c, q⟩ ∈ l → ((l.map (WP.put k c q')).map (·.q.total)).sum = (l.map (·.q.total)).sum - q.total + q'.total
  | [], _, _, _, _, _, h => by cases h
  | x :: r, k, c, q, q', hp, h => by
    obtain ⟨p1, p2⟩ := List.pairwise_cons.1 hp
    simp only [List.map_cons, List.sum_cons]
    rcases List.mem_cons.1 h with e | e
    · subst e
      have e1 : WP.put k c q' ⟨k, c, q⟩ = ⟨k, c, q'⟩ := by unfold WP.put; rw [if_pos (WP.at_iff.2 ⟨rfl, rfl⟩)]
      have e2 : r.map (WP.put k c q') = r := by
        rw [List.map_congr_left (g := id)]
        · simp
        · intro y hy
          unfold WP.put; rw [if_neg]
          · rfl
          · intro hat; have := WP.at_iff.1 hat; exact p1 y hy ⟨this.1.symm, this.2.symm⟩
      rw [e1, e2]; simp only; omega
    · have e1 : WP.put k c q' x = x := by
        unfold WP.put; rw [if_neg]
        intro hat; have := WP.at_iff.1 hat
        exact p1 _ e ⟨this.1, this.2⟩
      rw [e1, sum_put r k c q q' p2 e]; omega
theorem SS.total_setW {s : SS} (h : s.Ok) (k c : Int) (q' : QS) : (s.setW k c q').total = s.total - ((s.find k c).getD ⟨0, 0, []⟩).total + q'.total := by
  unfold SS.setW SS.total
  cases hf : s.find k c with
  | some q =>
    simp only [Option.isSome_some, if_true, Option.getD_some]
    rw [sum_put s.W k c q q' h.apart (SS.find_some hf)]; omega
  | none =>
    simp only [Option.isSome_none, Bool.false_eq_true, if_false, Option.getD_none, List.map_append, List.sum_append, List.map_cons, List.map_nil, List.sum_cons, List.sum_nil]; omega

/-! ### pools, act by act -/
theorem QS.join_total {q : QS} (o n : Int) : ((q.joinOp o n).1 = 0 → (q.joinOp o n).2.total = q.total + n) ∧ ((q.joinOp o n).1 ≠ 0 → (q.joinOp o n).2 = q) := by
  unfold QS.joinOp
  repeat' split
  all_goals (refine ⟨fun h => ?_, fun h => ?_⟩ <;> simp_all [QS.change])
theorem QS.take_total {q : QS} (o n : Int) : ((q.takeOp o n).1 = 0 → (q.takeOp o n).2.total = q.total - n) ∧ ((q.takeOp o n).1 ≠ 0 → (q.takeOp o n).2 = q) := by
  unfold QS.takeOp
  repeat' split
  all_goals (refine ⟨fun h => ?_, fun h => ?_⟩ <;> simp_all [QS.change] <;> omega)
theorem QS.leave_total {q : QS} (o : Int) : (q.leaveOp o).2.2.total = q.total - (q.leaveOp o).1 ∧ ((q.leaveOp o).2.1 ≠ 0 → (q.leaveOp o).1 = 0 ∧ (q.leaveOp o).2.2 = q) := by
  unfold QS.leaveOp
  repeat' split
  all_goals (refine ⟨?_, fun h => ?_⟩ <;> simp_all [QS.change] <;> omega)
theorem QS.leave_pos {q : QS} (h : q.Ok) (o : Int) : 0 ≤ (q.leaveOp o).1 ∧ (q.leaveOp o).1 ≤ 1125899906842624 := by
  have hv := h.value_bd o
  have ht := h.t1
  unfold QS.leaveOp
  repeat' split
  all_goals simp only
  all_goals omega
theorem QS.add_total {q : QS} (n : Int) : ((q.addOp n).1 = 0 → (q.addOp n).2.total = q.total + n) ∧ ((q.addOp n).1 ≠ 0 → (q.addOp n).2 = q) := by
  unfold QS.addOp
  repeat' split
  all_goals (refine ⟨fun h => ?_, fun h => ?_⟩ <;> simp_all)
theorem QS.slash_total {q : QS} (h : q.Ok) (p : Int) : (q.slashOp p).2.2.total = q.total - (q.slashOp p).1 ∧ (0 ≤ (q.slashOp p).1 ∧ (q.slashOp p).1 ≤ 1125899906842624) ∧ ((q.slashOp p).2.1 ≠ 0 → (q.slashOp p).1 = 0 ∧ (q.slashOp p).2.2 = q) ∧ ((q.slashOp p).2.1 = 0 ↔ 0 ≤ p ∧ p ≤ 100) := by
  have t1 := h.t1
  unfold QS.slashOp
  split
  · next hc => refine ⟨by simp, by simp, fun _ => ⟨rfl, rfl⟩, by simp; omega⟩
  · next hc =>
    have := slash_bd h.t0 (show 0 ≤ p by omega) (by omega)
    refine ⟨rfl, by simp only; omega, fun h => absurd rfl h, by simp; omega⟩

/-! ### all acts -/
theorem SS.setP_same {s : SS} (h : s.Ok) {k : Int} {q : QS} (hk : s.pool k = some q) : s.setP k q = s := by
  have hat := h.at hk
  unfold SS.setP
  have : s.P.set k.toNat (some q) = s.P := by
    apply List.ext_getElem?
    intro i
    rw [List.getElem?_set]
    split
    · next e => subst e; rw [if_pos (by have := (List.getElem?_eq_some_iff.1 hat).1; omega), hat]
    · rfl
  rw [this]
theorem SS.join_total {s : SS} (h : s.Ok) (o k n : Int) : ((s.joinOp o k n).1 = 0 → (s.joinOp o k n).2.total = s.total + n) ∧ ((s.joinOp o k n).1 ≠ 0 → (s.joinOp o k n).2.total = s.total) := by
  unfold SS.joinOp
  cases hp : s.pool k with
  | none => exact ⟨fun h => (by cases h), fun _ => rfl⟩
  | some q =>
    obtain ⟨a, b⟩ := QS.join_total (q := q) o n
    simp only
    rw [SS.total_setP h hp]
    exact ⟨fun hc => by rw [a hc]; omega, fun hc => by rw [b hc]; omega⟩
theorem SS.add_total {s : SS} (h : s.Ok) (k n : Int) : ((s.addOp k n).1 = 0 → (s.addOp k n).2.total = s.total + n) ∧ ((s.addOp k n).1 ≠ 0 → (s.addOp k n).2.total = s.total) := by
  unfold SS.addOp
  cases hp : s.pool k with
  | none => exact ⟨fun h => (by cases h), fun _ => rfl⟩
  | some q =>
    obtain ⟨a, b⟩ := QS.add_total (q := q) n
    simp only
    rw [SS.total_setP h hp]
    exact ⟨fun hc => by rw [a hc]; omega, fun hc => by rw [b hc]; omega⟩
theorem SS.reg_total {s : SS} (h : s.Ok) (k : Int) : (s.regOp k).2.total = s.total := by
  unfold SS.regOp
  split
  · rfl
  · split
    · rfl
    · next h1 h2 =>
      have hn : s.pool k = none := by
        unfold SS.is at h2
        cases hp : s.pool k with
        | none => rfl
        | some q => rw [hp] at h2; simp at h2
      rw [SS.total_reg h (by omega) (by omega) hn]; simp [QS.new]
theorem SS.leave_total {s : SS} (h : s.Ok) (o k n c : Int) : (s.leaveOp o k n c).2.total = s.total := by
  unfold SS.leaveOp
  cases hp : s.pool k with
  | none => rfl
  | some q =>
    have hl := h.lt hp
    simp only
    split
    · rfl
    · split
      · rfl
      · next hc =>
        split
        · rfl
        · next hw =>
          have h1 := h.setP hl.1 hl.2 (QS.takeOp_ok (h.poolOk hp) o n)
          rw [SS.total_setW h1, SS.total_setP h hp, (QS.take_total o n).1 (Decidable.not_not.1 hc), (QS.join_total o n).1 (Decidable.not_not.1 hw)]
          have e : (s.setP k (q.takeOp o n).2).find k c = s.find k c := rfl
          rw [e]
          cases s.find k c with
          | none => simp [QS.new]; omega
          | some z => simp; omega
theorem SS.free_total {s : SS} (h : s.Ok) (o c : Int) : (s.freeOp o c).2.2.total = s.total - (s.freeOp o c).1 ∧ 0 ≤ (s.freeOp o c).1 ∧ ((s.freeOp o c).2.1 ≠ 0 → (s.freeOp o c).1 = 0) := by
  have hsum : ((s.W.map (·.left o c)).map (·.q.total)).sum = (s.W.map (·.q.total)).sum - (s.W.map (·.gets o c)).sum := by
    have := sum_map_add (fun x : WP => x.q.total) (fun x => (x.left o c).q.total) (·.gets o c) s.W (fun x hx => by
      obtain ⟨l1, l2⟩ := QS.leave_total (q := x.q) o
      unfold WP.left WP.gets
      split
      · simp only; split
        · omega
        · next hne => have := l2 hne; omega
      · simp)
    rw [List.map_map]
    have e : (s.W.map ((fun x : WP => x.q.total) ∘ fun x => x.left o c)).sum = (s.W.map fun x => (x.left o c).q.total).sum := rfl
    rw [e]; omega
  have hpos : 0 ≤ (s.W.map (·.gets o c)).sum := by
    have : ∀ x ∈ s.W.map (·.gets o c), 0 ≤ x := by
      intro x hx
      obtain ⟨y, hy, rfl⟩ := List.mem_map.1 hx
      have := (QS.leave_pos (h.waits y hy).1 o).1
      unfold WP.gets; repeat' split
      all_goals omega
    exact (sum_le_of_nonneg this 0).2.1
  unfold SS.freeOp
  split
  · exact ⟨by simp, by simp, fun _ => rfl⟩
  · split
    · refine ⟨?_, hpos, fun h => absurd rfl h⟩
      unfold SS.total; simp only; omega
    · next hn =>
      have hz : (s.W.map (·.gets o c)).sum = 0 := by
        have : s.W.map (·.gets o c) = s.W.map fun _ => (0 : Int) := by
          apply List.map_congr_left
          intro x hx
          have hx' : x.has o c = false := by
            simp only [List.any_eq_true, not_exists, not_and] at hn
            simpa using hn x hx
          unfold WP.has at hx'; unfold WP.gets
          split
          · next hf => rw [hf] at hx'; simp at hx'; rw [if_neg hx']
          · rfl
        rw [this]
        clear this hsum hpos hn h
        induction s.W with
        | nil => rfl
        | cons a r ih => simpa using ih
      refine ⟨?_, by simp, fun _ => rfl⟩
      unfold SS.total; simp only; omega
theorem SS.slash_total {s : SS} (h : s.Ok) (k f p : Int) : (s.slashOp k f p).2.2.total = s.total - (s.slashOp k f p).1 ∧ 0 ≤ (s.slashOp k f p).1 ∧ ((s.slashOp k f p).2.1 ≠ 0 → (s.slashOp k f p).1 = 0) := by
  unfold SS.slashOp
  cases hp : s.pool k with
  | none => exact ⟨by simp, by simp, fun _ => rfl⟩
  | some q =>
    obtain ⟨q1, q2, q3, q4⟩ := QS.slash_total (h.poolOk hp) p
    simp only
    split
    · exact ⟨by simp, by simp, fun _ => rfl⟩
    · next hc =>
      have hsum : ((s.W.map (·.slash k f p)).map (·.q.total)).sum = (s.W.map (·.q.total)).sum - (s.W.map (·.loses k f p)).sum := by
        have := sum_map_add (fun x : WP => x.q.total) (fun x => (x.slash k f p).q.total) (·.loses k f p) s.W (fun x hx => by
          obtain ⟨l1, _⟩ := QS.slash_total (h.waits x hx).1 p
          unfold WP.slash WP.loses
          split
          · simp only; omega
          · simp)
        rw [List.map_map]
        have e : (s.W.map ((fun x : WP => x.q.total) ∘ fun x => x.slash k f p)).sum = (s.W.map fun x => (x.slash k f p).q.total).sum := rfl
        rw [e]; omega
      have hpos : 0 ≤ (s.W.map (·.loses k f p)).sum := by
        have : ∀ x ∈ s.W.map (·.loses k f p), 0 ≤ x := by
          intro x hx
          obtain ⟨y, hy, rfl⟩ := List.mem_map.1 hx
          have := (QS.slash_total (h.waits y hy).1 p).2.1
          unfold WP.loses; split
          all_goals omega
        exact (sum_le_of_nonneg this 0).2.1
      have hP := SS.total_setP h hp (q.slashOp p).2.2
      unfold SS.setP SS.total at hP
      simp only at hP
      refine ⟨?_, by omega, fun h => absurd rfl h⟩
      unfold SS.total; simp only; omega
theorem SS.new_total : SS.new.total = 0 := by rfl
/-- how much there may be -/
theorem SS.Ok.total_bd {s : SS} (h : s.Ok) : 0 ≤ s.total ∧ s.total ≤ 1125899906842624 * (3 + (s.W.length : Int)) := by
  have h1 : ∀ l : List (Option QS), (∀ q, some q ∈ l → q.Ok) → 0 ≤ (l.map optT).sum ∧ (l.map optT).sum ≤ 1125899906842624 * (l.length : Int) := by
    intro l hl
    induction l with
    | nil => simp
    | cons a r ih =>
      have := ih (fun q hq => hl q (by simp [hq]))
      have ha : 0 ≤ optT a ∧ optT a ≤ 1125899906842624 := by
        cases a with
        | none => simp [optT]
        | some q => have hq := hl q (by simp); exact ⟨hq.t0, hq.t1⟩
      simp only [List.map_cons, List.sum_cons, List.length_cons]; omega
  have h2 : ∀ l : List WP, (∀ x ∈ l, x.q.Ok) → 0 ≤ (l.map (·.q.total)).sum ∧ (l.map (·.q.total)).sum ≤ 1125899906842624 * (l.length : Int) := by
    intro l hl
    induction l with
    | nil => simp
    | cons a r ih =>
      have := ih (fun q hq => hl q (by simp [hq]))
      have ha := hl a (by simp)
      have := ha.t0; have := ha.t1
      simp only [List.map_cons, List.sum_cons, List.length_cons]; omega
  have p1 := h1 s.P h.pools
  have p2 := h2 s.W (fun x hx => (h.waits x hx).1)
  rw [h.three] at p1
  unfold SS.total; omega
end Go.Proofs.YtajnfkmkombajabGreatDoor
namespace Go.Proofs.YtajnfkmkombajabGreatDoor
open Go.RowKit

/-- The slice value reads, in w, as these points. -/
structure RdP (w : World) (ao : Option Addr) (len cap : Nat) (l : List (Int × Int)) : Prop where
  size : l.length = len
  lc : len ≤ cap
  cm : cap ≤ maxLen
  nul : ao = none → cap = 0
  wf : ∀ p ∈ l, (-9223372036854775808 ≤ p.1 ∧ p.1 ≤ 9223372036854775807) ∧ (-9223372036854775808 ≤ p.2 ∧ p.2 ≤ 9223372036854775807)
  cells : ∀ i, i < len → ∃ b off, ao = some ⟨b, off, none⟩ ∧ w.cell? ⟨b, off + i * 2, none⟩ = some (.int .i64 (l.getD i (0, 0)).1) ∧ w.cell? ⟨b, off + i * 2 + 1, none⟩ = some (.int .i64 (l.getD i (0, 0)).2)

theorem RdP.split {w : World} {ao : Option Addr} {len cap : Nat} {l : List (Int × Int)} (h : RdP w ao len cap l) :
    (len = 0 ∧ l = []) ∨ (0 < len ∧ ∃ b off, ao = some ⟨b, off, none⟩ ∧ b < w.heap.size ∧ ∀ i, i < len → w.cell? ⟨b, off + i * 2, none⟩ = some (.int .i64 (l.getD i (0, 0)).1) ∧ w.cell? ⟨b, off + i * 2 + 1, none⟩ = some (.int .i64 (l.getD i (0, 0)).2)) := by
  rcases Nat.eq_zero_or_pos len with h0 | h0
  · exact .inl ⟨h0, List.eq_nil_of_length_eq_zero (by rw [h.size, h0])⟩
  · obtain ⟨b, off, ha, hc, _⟩ := h.cells 0 h0
    refine .inr ⟨h0, b, off, ha, World.block_lt_of_cell? w _ hc, fun i hi => ?_⟩
    obtain ⟨b', off', ha', hc'⟩ := h.cells i hi
    rw [ha] at ha'; cases ha'; exact hc'

theorem RdP.below {w w' : World} {ao : Option Addr} {len cap : Nat} {l : List (Int × Int)} (h : RdP w ao len cap l) (hb : Below w.heap.size w w') : RdP w' ao len cap l := by
  refine ⟨h.size, h.lc, h.cm, h.nul, h.wf, fun i hi => ?_⟩
  obtain ⟨b, off, ha, hc, hd⟩ := h.cells i hi
  exact ⟨b, off, ha, by rw [hb.cell (p := ⟨b, off + i * 2, none⟩) (World.block_lt_of_cell? w _ hc)]; exact hc, by rw [hb.cell (p := ⟨b, off + i * 2 + 1, none⟩) (World.block_lt_of_cell? w _ hd)]; exact hd⟩

/-- is it no number of a point? -/
def ptBad (p : Int × Int) : Prop := p.1 < 0 ∨ 1000000 < p.1 ∨ p.2 < 0 ∨ 1000000 < p.2
instance (p : Int × Int) : Decidable (ptBad p) := by unfold ptBad; infer_instance

/-- an error's number, and its place (-1: bare), of the points from place i on -/
def chk : Nat → Option Int → List (Int × Int) → Nat × Int
  | _, _, [] => (0, -1)
  | i, none, p :: r => if ptBad p then (2, i) else chk (i + 1) (some p.1) r
  | i, some x, p :: r => if ptBad p then (2, i) else if p.1 ≤ x then (3, i) else chk (i + 1) (some p.1) r

/-- .. of a whole bend -/
def checkF (l : List (Int × Int)) : Nat × Int := if l.length < 2 ∨ 8 < l.length then (3, -1) else chk 0 none l

/-- a right bend from a point on, at x -/
def bendGo : List (Int × Int) → Int → Int
  | [], _ => 0
  | [p], _ => p.2
  | p :: q :: r, x => if x < q.1 then p.2 + (q.2 - p.2) * (x - p.1) / (q.1 - p.1) else bendGo (q :: r) x

/-- a right bend at x -/
def bendV (l : List (Int × Int)) (x : Int) : Int := if x < (l.getD 0 (0, 0)).1 then (l.getD 0 (0, 0)).2 else bendGo l x
/-- an error's number and place of a bend at x; and its value -/
def bendF (l : List (Int × Int)) (x : Int) : Nat × Int := if (checkF l).1 ≠ 0 then checkF l else if x < 0 ∨ 1000000 < x then (2, -1) else (0, -1)

/-- what is right of a bend -/
structure BendOk (l : List (Int × Int)) : Prop where
  two : 2 ≤ l.length
  eight : l.length ≤ 8
  good : ∀ i, i < l.length → ¬ ptBad (l.getD i (0, 0))
  rise : ∀ i, i + 1 < l.length → (l.getD i (0, 0)).1 < (l.getD (i + 1) (0, 0)).1

theorem chk_ok : ∀ (r : List (Int × Int)) (i : Nat) (o : Option Int), (chk i o r).1 = 0 → (∀ j, j < r.length → ¬ ptBad (r.getD j (0, 0))) ∧ (∀ j, j + 1 < r.length → (r.getD j (0, 0)).1 < (r.getD (j + 1) (0, 0)).1) ∧ ∀ x, o = some x → 0 < r.length → x < (r.getD 0 (0, 0)).1
  | [], _, _, _ => ⟨fun j h => by simp at h, fun j h => by simp at h, fun x _ h => by simp at h⟩
  | p :: r, i, o, h => by
    have key : ¬ ptBad p ∧ (chk (i + 1) (some p.1) r).1 = 0 ∧ ∀ x, o = some x → x < p.1 := by
      cases o with
      | none =>
        simp only [chk] at h
        split at h
        · cases h
        · rename_i hb; exact ⟨hb, h, fun x hx => by cases hx⟩
      | some x =>
        simp only [chk] at h
        split at h
        · cases h
        · rename_i hb
          split at h
          · cases h
          · rename_i hx; exact ⟨hb, h, fun y hy => by cases hy; omega⟩
    obtain ⟨k1, k2, k3⟩ := key
    obtain ⟨a, b, c⟩ := chk_ok r (i + 1) (some p.1) k2
    refine ⟨fun j hj => ?_, fun j hj => ?_, fun x hx _ => by simpa using k3 x hx⟩
    · cases j with
      | zero => simpa using k1
      | succ j => simpa using a j (by simpa using hj)
    · cases j with
      | zero => simpa using c p.1 rfl (by simpa using hj)
      | succ j => simpa using b j (by simpa using hj)

theorem check_ok {l : List (Int × Int)} (h : (checkF l).1 = 0) : BendOk l := by
  unfold checkF at h
  split at h
  · cases h
  · rename_i hn
    obtain ⟨a, b, _⟩ := chk_ok l 0 none h
    exact ⟨by omega, by omega, a, b⟩
/-- the X ahead of place k -/
def prevX (l : List (Int × Int)) (k : Nat) : Option Int := if k = 0 then none else some (l.getD (k - 1) (0, 0)).1
theorem drop_get {l : List (Int × Int)} {k : Nat} (h : k < l.length) : l.drop k = l.getD k (0, 0) :: l.drop (k + 1) := by
  rw [List.drop_eq_getElem_cons h]; simp [List.getD_eq_getElem?_getD, List.getElem?_eq_getElem h]
theorem chk_bad {l : List (Int × Int)} {k : Nat} (h : k < l.length) (hb : ptBad (l.getD k (0, 0))) : chk k (prevX l k) (l.drop k) = (2, (k : Int)) := by
  rw [drop_get h]; unfold prevX; split <;> simp only [chk, if_pos hb]
theorem chk_shape {l : List (Int × Int)} {k : Nat} (h : k < l.length) (hb : ¬ ptBad (l.getD k (0, 0))) (hk : 0 < k) (hx : (l.getD k (0, 0)).1 ≤ (l.getD (k - 1) (0, 0)).1) : chk k (prevX l k) (l.drop k) = (3, (k : Int)) := by
  rw [drop_get h]; unfold prevX; rw [if_neg (by omega)]; simp only [chk, if_neg hb, if_pos hx]
theorem chk_next {l : List (Int × Int)} {k : Nat} (h : k < l.length) (hb : ¬ ptBad (l.getD k (0, 0))) (hx : k = 0 ∨ (l.getD (k - 1) (0, 0)).1 < (l.getD k (0, 0)).1) : chk k (prevX l k) (l.drop k) = chk (k + 1) (prevX l (k + 1)) (l.drop (k + 1)) := by
  rw [drop_get h]
  have e : prevX l (k + 1) = some (l.getD k (0, 0)).1 := by unfold prevX; rw [if_neg (by omega)]; rfl
  rw [e]
  unfold prevX
  split
  · simp only [chk, if_neg hb]
  · rename_i h0
    have : ¬ (l.getD k (0, 0)).1 ≤ (l.getD (k - 1) (0, 0)).1 := by rcases hx with h | h <;> omega
    simp only [chk, if_neg hb, if_neg this]
theorem chk_done {l : List (Int × Int)} {k : Nat} (h : l.length ≤ k) : chk k (prevX l k) (l.drop k) = (0, -1) := by
  rw [List.drop_eq_nil_of_le h]; unfold prevX; split <;> rfl
theorem checkF_in {l : List (Int × Int)} (h : ¬ (l.length < 2 ∨ 8 < l.length)) : checkF l = chk 0 (prevX l 0) (l.drop 0) := by
  unfold checkF; rw [if_neg h]; rfl
theorem checkF_out {l : List (Int × Int)} (h : l.length < 2 ∨ 8 < l.length) : checkF l = (3, -1) := by
  unfold checkF; rw [if_pos h]
theorem ptBad_cases {x y : Int} : x < 0 ∨ (0 ≤ x ∧ 1000000 < x) ∨ (0 ≤ x ∧ x ≤ 1000000 ∧ y < 0) ∨ (0 ≤ x ∧ x ≤ 1000000 ∧ 0 ≤ y ∧ 1000000 < y) ∨ (0 ≤ x ∧ x ≤ 1000000 ∧ 0 ≤ y ∧ y ≤ 1000000) := by omega
theorem chk_zero : ∀ (r : List (Int × Int)) (i : Nat) (o : Option Int), (chk i o r).1 = 0 → chk i o r = (0, -1)
  | [], _, _, _ => rfl
  | p :: r, i, none, h => by
    simp only [chk] at h ⊢
    split at h
    · cases h
    · rename_i hb; rw [if_neg hb]; exact chk_zero r _ _ h
  | p :: r, i, some x, h => by
    simp only [chk] at h ⊢
    split at h
    · cases h
    · rename_i hb
      rw [if_neg hb]
      split at h
      · cases h
      · rename_i hx; rw [if_neg hx]; exact chk_zero r _ _ h
theorem checkF_zero {l : List (Int × Int)} (h : (checkF l).1 = 0) : checkF l = (0, -1) := by
  unfold checkF at h ⊢
  split at h
  · cases h
  · rename_i hn; rw [if_neg hn]; exact chk_zero _ _ _ h

theorem bendGo_step {l : List (Int × Int)} {k : Nat} {x : Int} (h : k + 1 < l.length) (hx : ¬ x < (l.getD (k + 1) (0, 0)).1) : bendGo (l.drop k) x = bendGo (l.drop (k + 1)) x := by
  rw [drop_get (by omega : k < l.length), drop_get h]
  simp only [bendGo, if_neg hx]
theorem bendGo_here {l : List (Int × Int)} {k : Nat} {x : Int} (h : k + 1 < l.length) (hx : x < (l.getD (k + 1) (0, 0)).1) :
    bendGo (l.drop k) x = (l.getD k (0, 0)).2 + ((l.getD (k + 1) (0, 0)).2 - (l.getD k (0, 0)).2) * (x - (l.getD k (0, 0)).1) / ((l.getD (k + 1) (0, 0)).1 - (l.getD k (0, 0)).1) := by
  rw [drop_get (by omega : k < l.length), drop_get h]
  simp only [bendGo, if_pos hx]
theorem bendGo_last {l : List (Int × Int)} {k : Nat} {x : Int} (h : k + 1 = l.length) : bendGo (l.drop k) x = (l.getD k (0, 0)).2 := by
  rw [drop_get (by omega : k < l.length), List.drop_eq_nil_of_le (by omega)]
  rfl
theorem bend_mul {p q : Int × Int} {x : Int} (hp : ¬ ptBad p) (hq : ¬ ptBad q) (h0 : 0 ≤ x) (h1 : x ≤ 1000000) :
    -1000000000000 ≤ (q.2 - p.2) * (x - p.1) ∧ (q.2 - p.2) * (x - p.1) ≤ 1000000000000 := by
  unfold ptBad at hp hq
  have h : ((q.2 - p.2) * (x - p.1)).natAbs ≤ 1000000 * 1000000 := by
    rw [Int.natAbs_mul]; exact Nat.mul_le_mul (by omega) (by omega)
  omega
end Go.Proofs.YtajnfkmkombajabGreatDoor
namespace Go.Proofs.YtajnfkmkombajabGreatDoor
open Go.RowKit

/-- the bend of rates -/
def rateL : List (Int × Int) := [(0, 40000), (250000, 20000), (500000, 10000), (1000000, 5000)]
theorem rateL_right : (checkF rateL).1 = 0 := by decide
theorem rateL_at {x : Int} (h0 : 0 ≤ x) (h1 : x ≤ 1000000) : bendV rateL x =
    if x < 250000 then 40000 + (-20000) * x / 250000 else if x < 500000 then 20000 + (-10000) * (x - 250000) / 250000 else if x < 1000000 then 10000 + (-5000) * (x - 500000) / 500000 else 5000 := by
  unfold bendV
  rw [if_neg (by simp [rateL]; omega)]
  simp only [rateL, bendGo]
  simp only [show (20000 : Int) - 40000 = -20000 from rfl, show (10000 : Int) - 20000 = -10000 from rfl, show (5000 : Int) - 10000 = -5000 from rfl, Int.sub_zero, show (500000 : Int) - 250000 = 250000 from rfl, show (1000000 : Int) - 500000 = 500000 from rfl]
theorem rateL_bounds {x : Int} (h0 : 0 ≤ x) (h1 : x ≤ 1000000) : 5000 ≤ bendV rateL x ∧ bendV rateL x ≤ 40000 := by
  rw [rateL_at h0 h1]; split
  · omega
  · split
    · omega
    · split <;> omega
theorem rateL_falls {x y : Int} (h0 : 0 ≤ x) (hxy : x ≤ y) (h1 : y ≤ 1000000) : bendV rateL y ≤ bendV rateL x := by
  rw [rateL_at h0 (by omega), rateL_at (by omega) h1]
  by_cases a1 : x < 250000 <;> by_cases a2 : x < 500000 <;> by_cases a3 : x < 1000000 <;> by_cases b1 : y < 250000 <;> by_cases b2 : y < 500000 <;> by_cases b3 : y < 1000000 <;> simp only [a1, a2, a3, b1, b2, b3, if_true, if_false] <;> omega

/-- may it be a ratio of these? -/
def ratioOk (s p : Int) : Prop := 0 ≤ s ∧ s ≤ p ∧ 1 ≤ p ∧ p ≤ 1125899906842624
instance (s p : Int) : Decidable (ratioOk s p) := by unfold ratioOk; infer_instance
def ratioN (s p : Int) : Int := if ratioOk s p then s * 1000000 / p else 0
def ratioC (s p : Int) : Nat := if ratioOk s p then 0 else 2
theorem ratio_over {s p : Int} (h : ratioOk s p) : overOk s 1000000 p := by
  obtain ⟨h0, h1, h2, h3⟩ := h
  have : s * 1000000 / p ≤ 1000000 := by
    have h := Int.ediv_le_ediv (show 0 < p by omega) (show s * 1000000 ≤ 1000000 * p by omega)
    rwa [Int.mul_ediv_cancel _ (show p ≠ 0 by omega)] at h
  exact ⟨by omega, by omega, by omega, by omega⟩
theorem ratio_in {s p : Int} (h : ratioOk s p) : 0 ≤ ratioN s p ∧ ratioN s p ≤ 1000000 := by
  unfold ratioN; rw [if_pos h]
  obtain ⟨h0, h1, h2, h3⟩ := h
  have : s * 1000000 / p ≤ 1000000 := by
    have h := Int.ediv_le_ediv (show 0 < p by omega) (show s * 1000000 ≤ 1000000 * p by omega)
    rwa [Int.mul_ediv_cancel _ (show p ≠ 0 by omega)] at h
  exact ⟨Int.ediv_nonneg (by omega) (by omega), this⟩
theorem ratio_rises {s t p : Int} (h : ratioOk s p) (k : ratioOk t p) (hst : s ≤ t) : ratioN s p ≤ ratioN t p := by
  unfold ratioN; rw [if_pos h, if_pos k]
  exact Int.ediv_le_ediv (by have := h.2.2.1; omega) (by omega)

def rateOk (r b : Int) : Prop := 0 ≤ r ∧ r ≤ 1000000 ∧ 0 ≤ b ∧ b ≤ 5000
instance (s p : Int) : Decidable (rateOk s p) := by unfold rateOk; infer_instance
def rateC (r b : Int) : Nat := if rateOk r b then 0 else 2
def rateN (r b : Int) : Int := if rateOk r b then bendV rateL r + b else 0
def bonusN (b r : Int) : Int := if rateOk r b then (if r < 480000 then min 5000 (b + 100) else if 520000 < r then max 0 (b - 100) else b) else 0

def rewardOk (s r : Int) : Prop := (0 ≤ s ∧ s ≤ 1125899906842624) ∧ 0 ≤ r ∧ r ≤ 1000000
instance (s p : Int) : Decidable (rewardOk s p) := by unfold rewardOk; infer_instance
def rewardC (s r : Int) : Nat := if rewardOk s r then 0 else 2
def rewardN (s r : Int) : Int := if rewardOk s r then s * r / 1000000 / 4 else 0
theorem reward_over {s r : Int} (h : rewardOk s r) : overOk s r 1000000 := by
  obtain ⟨⟨h0, h1⟩, h2, h3⟩ := h
  have h4 : s * r ≤ s * 1000000 := Int.mul_le_mul_of_nonneg_left h3 h0
  exact ⟨by omega, by omega, by omega, by omega⟩
theorem reward_in {s r : Int} (h : rewardOk s r) : 0 ≤ rewardN s r ∧ rewardN s r ≤ s := by
  have h4 : s * r ≤ s * 1000000 := Int.mul_le_mul_of_nonneg_left h.2.2 h.1.1
  have h5 : 0 ≤ s * r := Int.mul_nonneg h.1.1 h.2.1
  unfold rewardN; rw [if_pos h]
  omega
end Go.Proofs.YtajnfkmkombajabGreatDoor
