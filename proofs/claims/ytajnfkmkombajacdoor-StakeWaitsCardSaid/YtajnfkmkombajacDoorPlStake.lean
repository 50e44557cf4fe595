/- Stakes as plain numbers: what each call of package stake answers and leaves. No program in sight. -/
import Derived.Test.YtajnfkmkombajacDoorPlFair
set_option linter.unusedVariables false
set_option linter.unusedSimpArgs false
namespace Go.Proofs.YtajnfkmkombajacDoor
open Go.RowKit

/-- what waits: which baker's, since which cycle, its pool -/
structure WP where
  b : Int
  c : Int
  q : QS
/-- pools of the bakers (none: not registered), and what waits -/
structure SS where
  P : List (Option QS)
  W : List WP

def SS.new : SS := ⟨[none, none, none], []⟩
def SS.pool (s : SS) (k : Int) : Option QS := if 0 ≤ k then s.P.getD k.toNat none else none
def SS.is (s : SS) (k : Int) : Bool := (s.pool k).isSome
def WP.at (x : WP) (k c : Int) : Bool := x.b == k && x.c == c
def SS.find (s : SS) (k c : Int) : Option QS := (s.W.find? (·.at k c)).map (·.q)
/-- the pool of baker k: its own (none), or what waits since a cycle -/
def SS.get (s : SS) (k : Nat) : Option Int → Option QS
  | none => s.P.getD k none
  | some c => s.find k c

structure SS.Ok (s : SS) : Prop where
  three : s.P.length = 3
  pools : ∀ q, some q ∈ s.P → q.Ok
  waits : ∀ x ∈ s.W, x.q.Ok ∧ s.is x.b = true ∧ 0 ≤ x.c ∧ x.c ≤ 1048576
  apart : s.W.Pairwise fun x y => ¬ (x.b = y.b ∧ x.c = y.c)

def SS.setP (s : SS) (k : Int) (q : QS) : SS := ⟨s.P.set k.toNat (some q), s.W⟩
/-- what waits at (k, c) is q now -/
def WP.put (k c : Int) (q : QS) (x : WP) : WP := if x.at k c then ⟨x.b, x.c, q⟩ else x
def SS.setW (s : SS) (k c : Int) (q : QS) : SS := ⟨s.P, if (s.find k c).isSome then s.W.map (WP.put k c q) else s.W ++ [⟨k, c, q⟩]⟩

def cycleC (c : Int) : Nat := if c < 0 ∨ 1048576 < c then 2 else 0

def SS.regOp (s : SS) (k : Int) : Nat × SS := if k < 0 ∨ 3 ≤ k then (2, s) else if s.is k then (5, s) else (0, s.setP k QS.new)
def SS.joinOp (s : SS) (o k n : Int) : Nat × SS :=
  match s.pool k with
  | none => (4, s)
  | some q => ((q.joinOp o n).1, s.setP k (q.joinOp o n).2)
def SS.leaveOp (s : SS) (o k n c : Int) : Nat × SS :=
  match s.pool k with
  | none => (4, s)
  | some q =>
    if cycleC c ≠ 0 then (2, s) else if (q.takeOp o n).1 ≠ 0 then ((q.takeOp o n).1, s)
    else
      let v := (s.find k c).getD QS.new
      if (v.joinOp o n).1 ≠ 0 then ((v.joinOp o n).1, s) else (0, (s.setP k (q.takeOp o n).2).setW k c (v.joinOp o n).2)
/-- may what waits be had in this cycle? -/
def WP.free (c : Int) (x : WP) : Bool := decide (x.c + 2 < c)
def WP.left (o c : Int) (x : WP) : WP := if x.free c then ⟨x.b, x.c, (x.q.leaveOp o).2.2⟩ else x
def WP.gets (o c : Int) (x : WP) : Int := if x.free c then (if (x.q.leaveOp o).2.1 = 0 then (x.q.leaveOp o).1 else 0) else 0
def WP.has (o c : Int) (x : WP) : Bool := x.free c && (x.q.leaveOp o).2.1 == 0
def SS.freeOp (s : SS) (o c : Int) : Int × Nat × SS :=
  if cycleC c ≠ 0 ∨ ownB o = false then (0, 2, s)
  else if s.W.any (·.has o c) then ((s.W.map (·.gets o c)).sum, 0, ⟨s.P, s.W.map (·.left o c)⟩) else (0, 4, ⟨s.P, s.W.map (·.left o c)⟩)
def SS.addOp (s : SS) (k n : Int) : Nat × SS :=
  match s.pool k with
  | none => (4, s)
  | some q => ((q.addOp n).1, s.setP k (q.addOp n).2)
/-- is it slashed with baker k's, from a cycle on? -/
def WP.hit (k f : Int) (x : WP) : Bool := x.b == k && decide (f ≤ x.c)
def WP.slash (k f p : Int) (x : WP) : WP := if x.hit k f then ⟨x.b, x.c, (x.q.slashOp p).2.2⟩ else x
def WP.loses (k f p : Int) (x : WP) : Int := if x.hit k f then (x.q.slashOp p).1 else 0
def SS.slashOp (s : SS) (k f p : Int) : Int × Nat × SS :=
  match s.pool k with
  | none => (0, 4, s)
  | some q => if (q.slashOp p).2.1 ≠ 0 then (0, (q.slashOp p).2.1, s) else ((q.slashOp p).1 + (s.W.map (·.loses k f p)).sum, 0, ⟨s.P.set k.toNat (some (q.slashOp p).2.2), s.W.map (·.slash k f p)⟩)
def SS.staked (s : SS) (k : Int) : Int := ((s.pool k).map (·.total)).getD 0
def SS.value (s : SS) (o k : Int) : Int := ((s.pool k).map (·.value o)).getD 0
def SS.waits (s : SS) (o k c : Int) : Int := ((s.find k c).map (·.value o)).getD 0
def optT (o : Option QS) : Int := (o.map (·.total)).getD 0
def SS.total (s : SS) : Int := (s.P.map optT).sum + (s.W.map (·.q.total)).sum

/-! ### what stays right -/

theorem SS.new_ok : SS.new.Ok := ⟨rfl, (fun q h => by simp [SS.new] at h), (fun x h => by cases h), List.Pairwise.nil⟩

theorem SS.Ok.lt {s : SS} (h : s.Ok) {k : Int} {q : QS} (hk : s.pool k = some q) : 0 ≤ k ∧ k < 3 := by
  unfold SS.pool at hk
  split at hk
  · next h0 =>
    refine ⟨h0, ?_⟩
    apply Decidable.byContradiction
    intro h3
    rw [List.getD_eq_getElem?_getD, List.getElem?_eq_none (by rw [h.three]; omega)] at hk
    cases hk
  · cases hk
theorem SS.Ok.at {s : SS} (h : s.Ok) {k : Int} {q : QS} (hk : s.pool k = some q) : s.P[k.toNat]? = some (some q) := by
  have hl := h.lt hk
  unfold SS.pool at hk
  rw [if_pos hl.1, List.getD_eq_getElem?_getD] at hk
  have : k.toNat < s.P.length := by rw [h.three]; omega
  rw [List.getElem?_eq_getElem this] at hk ⊢
  exact congrArg some hk
theorem SS.Ok.poolOk {s : SS} (h : s.Ok) {k : Int} {q : QS} (hk : s.pool k = some q) : q.Ok := h.pools q (List.mem_of_getElem? (h.at hk))
theorem SS.pool_nat {s : SS} {k : Nat} : s.pool (k : Int) = s.P.getD k none := by unfold SS.pool; rw [if_pos (by omega)]; rfl
theorem SS.pool_out {s : SS} (h : s.Ok) {k : Int} (hk : k < 0 ∨ 3 ≤ k) : s.pool k = none := by
  cases hp : s.pool k with
  | none => rfl
  | some q => have := h.lt hp; omega

theorem SS.pool_setP {s : SS} (h : s.Ok) {k : Int} (h0 : 0 ≤ k) (h3 : k < 3) (q : QS) (j : Int) : (s.setP k q).pool j = if j = k then some q else s.pool j := by
  unfold SS.pool SS.setP
  by_cases hj : 0 ≤ j
  · rw [if_pos hj, if_pos hj]
    simp only [List.getD_eq_getElem?_getD, List.getElem?_set]
    by_cases e : j = k
    · subst e; rw [if_pos rfl, if_pos rfl, if_pos (by rw [h.three]; omega)]; rfl
    · rw [if_neg (by omega), if_neg e]
  · rw [if_neg hj, if_neg hj, if_neg (by omega)]
theorem SS.is_setP {s : SS} (h : s.Ok) {k : Int} (h0 : 0 ≤ k) (h3 : k < 3) (q : QS) {j : Int} (hj : s.is j = true) : (s.setP k q).is j = true := by
  unfold SS.is; rw [SS.pool_setP h h0 h3]
  split
  · rfl
  · exact hj
theorem SS.Ok.setP {s : SS} (h : s.Ok) {k : Int} (h0 : 0 ≤ k) (h3 : k < 3) {q : QS} (hq : q.Ok) : (s.setP k q).Ok := by
  refine ⟨by simp [SS.setP, h.three], fun r hr => ?_, fun x hx => ?_, h.apart⟩
  · rcases List.mem_or_eq_of_mem_set hr with hr | hr
    · exact h.pools r hr
    · cases hr; exact hq
  · obtain ⟨w1, w2, w3⟩ := h.waits x hx
    exact ⟨w1, SS.is_setP h h0 h3 q w2, w3⟩

theorem WP.at_iff {x : WP} {k c : Int} : x.at k c = true ↔ x.b = k ∧ x.c = c := by unfold WP.at; simp
theorem SS.find_some {s : SS} {k c : Int} {q : QS} (h : s.find k c = some q) : ⟨k, c, q⟩ ∈ s.W := by
  unfold SS.find at h
  obtain ⟨x, hx, rfl⟩ := Option.map_eq_some_iff.1 h
  have h1 := List.find?_some hx
  obtain ⟨rfl, rfl⟩ := WP.at_iff.1 h1
  exact List.mem_of_find?_eq_some hx
theorem SS.find_mem {s : SS} (h : s.W.Pairwise fun x y => ¬ (x.b = y.b ∧ x.c = y.c)) {x : WP} (hx : x ∈ s.W) : s.find x.b x.c = some x.q := by
  unfold SS.find
  cases hf : s.W.find? (·.at x.b x.c) with
  | none =>
    have := List.find?_eq_none.1 hf x hx
    exact absurd (WP.at_iff.2 ⟨rfl, rfl⟩) this
  | some y =>
    have h1 := WP.at_iff.1 (List.find?_some (p := fun z : WP => z.at x.b x.c) hf)
    have hy := List.mem_of_find?_eq_some hf
    have : x = y := by
      apply Classical.byContradiction
      intro hne
      have hp : ∀ (l : List WP), l.Pairwise (fun x y => ¬ (x.b = y.b ∧ x.c = y.c)) → x ∈ l → y ∈ l → False := by
        intro l hl
        induction l with
        | nil => intro h; cases h
        | cons a r ih =>
          intro h1' h2'
          obtain ⟨p1, p2⟩ := List.pairwise_cons.1 hl
          rcases List.mem_cons.1 h1' with e1 | e1
          · rcases List.mem_cons.1 h2' with e2 | e2
            · exact hne (e1.trans e2.symm)
            · subst e1; exact p1 y e2 ⟨h1.1.symm, h1.2.symm⟩
          · rcases List.mem_cons.1 h2' with e2 | e2
            · subst e2; exact p1 x e1 ⟨h1.1, h1.2⟩
            · exact ih p2 e1 e2
      exact hp s.W h hx hy
    subst this; rfl
theorem SS.find_none {s : SS} {k c : Int} (h : s.find k c = none) : ∀ x ∈ s.W, ¬ (x.b = k ∧ x.c = c) := by
  unfold SS.find at h
  have := List.find?_eq_none.1 (Option.map_eq_none_iff.1 h)
  intro x hx hxx
  exact this x hx (WP.at_iff.2 hxx)
theorem SS.Ok.findOk {s : SS} (h : s.Ok) {k c : Int} {q : QS} (hf : s.find k c = some q) : q.Ok := (h.waits _ (SS.find_some hf)).1

theorem WP.put_b (k c : Int) (q : QS) (x : WP) : (WP.put k c q x).b = x.b ∧ (WP.put k c q x).c = x.c := by unfold WP.put; split <;> exact ⟨rfl, rfl⟩
theorem pairwise_map_same {l : List WP} {f : WP → WP} (hf : ∀ x, (f x).b = x.b ∧ (f x).c = x.c) (h : l.Pairwise fun x y => ¬ (x.b = y.b ∧ x.c = y.c)) : (l.map f).Pairwise fun x y => ¬ (x.b = y.b ∧ x.c = y.c) := by
  rw [List.pairwise_map]
  exact h.imp fun {a b} hab => by rw [(hf a).1, (hf a).2, (hf b).1, (hf b).2]; exact hab
theorem find_map_same {l : List WP} {f : WP → WP} (hf : ∀ x, (f x).b = x.b ∧ (f x).c = x.c) (k c : Int) : (l.map f).find? (·.at k c) = (l.find? (·.at k c)).map f := by
  induction l with
  | nil => rfl
  | cons a r ih =>
    have e : (f a).at k c = a.at k c := by unfold WP.at; rw [(hf a).1, (hf a).2]
    simp only [List.map_cons, List.find?_cons, e]
    split
    · rfl
    · exact ih

theorem SS.find_setW {s : SS} (k c : Int) (q : QS) (k' c' : Int) : (s.setW k c q).find k' c' = if k' = k ∧ c' = c then some q else s.find k' c' := by
  unfold SS.setW
  split
  · next hs =>
    unfold SS.find
    simp only
    rw [find_map_same (WP.put_b k c q)]
    by_cases e : k' = k ∧ c' = c
    · obtain ⟨rfl, rfl⟩ := e
      rw [if_pos ⟨rfl, rfl⟩]
      unfold SS.find at hs
      cases hf : s.W.find? (·.at k' c') with
      | none => rw [hf] at hs; cases hs
      | some y =>
        have := List.find?_some hf
        simp only [Option.map_some]
        unfold WP.put; rw [if_pos this]
    · rw [if_neg e]
      cases hf : s.W.find? (·.at k' c') with
      | none => rfl
      | some y =>
        have h1 := WP.at_iff.1 (List.find?_some (p := fun z : WP => z.at k' c') hf)
        simp only [Option.map_some]
        unfold WP.put; rw [if_neg]
        intro h2; have h3 := WP.at_iff.1 h2
        exact e ⟨by omega, by omega⟩
  · next hs =>
    unfold SS.find at hs ⊢
    simp only [List.find?_append]
    by_cases e : k' = k ∧ c' = c
    · obtain ⟨rfl, rfl⟩ := e
      rw [if_pos ⟨rfl, rfl⟩]
      cases hf : s.W.find? (·.at k' c') with
      | none => simp [WP.at]
      | some y => rw [hf] at hs; simp at hs
    · rw [if_neg e]
      cases hf : s.W.find? (·.at k' c') with
      | none =>
        have : (WP.mk k c q).at k' c' = false := by
          cases hx : (WP.mk k c q).at k' c' with
          | false => rfl
          | true => have := WP.at_iff.1 hx; simp only at this; exact absurd ⟨this.1.symm, this.2.symm⟩ e
        simp [this]
      | some y => simp

theorem SS.Ok.setW {s : SS} (h : s.Ok) {k c : Int} {q : QS} (hq : q.Ok) (hk : s.is k = true) (h0 : 0 ≤ c) (h1 : c ≤ 1048576) : (s.setW k c q).Ok := by
  unfold SS.setW
  split
  · next hs =>
    refine ⟨h.three, h.pools, fun x hx => ?_, pairwise_map_same (WP.put_b k c q) h.apart⟩
    obtain ⟨y, hy, rfl⟩ := List.mem_map.1 hx
    obtain ⟨w1, w2, w3, w4⟩ := h.waits y hy
    rw [(WP.put_b k c q y).1, (WP.put_b k c q y).2]
    refine ⟨?_, w2, w3, w4⟩
    unfold WP.put; split
    · exact hq
    · exact w1
  · next hs =>
    refine ⟨h.three, h.pools, fun x hx => ?_, ?_⟩
    · rcases List.mem_append.1 hx with hx | hx
      · exact h.waits x hx
      · obtain rfl := List.mem_singleton.1 hx
        exact ⟨hq, hk, h0, h1⟩
    · rw [List.pairwise_append]
      refine ⟨h.apart, List.pairwise_singleton _ _, fun x hx y hy => ?_⟩
      obtain rfl := List.mem_singleton.1 hy
      have hn : s.find k c = none := by cases hf : s.find k c with
        | none => rfl
        | some z => rw [hf] at hs; simp at hs
      exact SS.find_none hn x hx
theorem SS.Ok.mapW {s : SS} (h : s.Ok) {f : WP → WP} (hf : ∀ x, (f x).b = x.b ∧ (f x).c = x.c) (hq : ∀ x, x.q.Ok → (f x).q.Ok) : (SS.mk s.P (s.W.map f)).Ok := by
  refine ⟨h.three, h.pools, fun x hx => ?_, pairwise_map_same hf h.apart⟩
  obtain ⟨y, hy, rfl⟩ := List.mem_map.1 hx
  obtain ⟨w1, w2, w3⟩ := h.waits y hy
  rw [(hf y).1, (hf y).2]
  exact ⟨hq y w1, w2, w3⟩

theorem WP.left_b (o c : Int) (x : WP) : (x.left o c).b = x.b ∧ (x.left o c).c = x.c := by unfold WP.left; split <;> exact ⟨rfl, rfl⟩
theorem WP.left_ok (o c : Int) (x : WP) (h : x.q.Ok) : (x.left o c).q.Ok := by unfold WP.left; split; exact QS.leaveOp_ok h o; exact h
theorem WP.slash_b (k f p : Int) (x : WP) : (x.slash k f p).b = x.b ∧ (x.slash k f p).c = x.c := by unfold WP.slash; split <;> exact ⟨rfl, rfl⟩
theorem WP.slash_ok (k f p : Int) (x : WP) (h : x.q.Ok) : (x.slash k f p).q.Ok := by unfold WP.slash; split; exact QS.slashOp_ok h p; exact h

theorem cycleC_zero {c : Int} : cycleC c = 0 ↔ 0 ≤ c ∧ c ≤ 1048576 := by unfold cycleC; split <;> constructor <;> intro h <;> simp_all <;> omega

theorem SS.regOp_ok {s : SS} (h : s.Ok) (k : Int) : (s.regOp k).2.Ok := by
  unfold SS.regOp
  split
  · exact h
  · split
    · exact h
    · exact h.setP (by omega) (by omega) QS.new_ok
theorem SS.joinOp_ok {s : SS} (h : s.Ok) (o k n : Int) : (s.joinOp o k n).2.Ok := by
  unfold SS.joinOp
  cases hp : s.pool k with
  | none => exact h
  | some q => have := h.lt hp; exact h.setP this.1 this.2 (QS.joinOp_ok (h.poolOk hp) o n)
theorem SS.addOp_ok {s : SS} (h : s.Ok) (k n : Int) : (s.addOp k n).2.Ok := by
  unfold SS.addOp
  cases hp : s.pool k with
  | none => exact h
  | some q => have := h.lt hp; exact h.setP this.1 this.2 (QS.addOp_ok (h.poolOk hp) n)
theorem SS.findOr_ok {s : SS} (h : s.Ok) (k c : Int) : ((s.find k c).getD QS.new).Ok := by
  cases hf : s.find k c with
  | none => exact QS.new_ok
  | some q => exact h.findOk hf
theorem SS.leaveOp_ok {s : SS} (h : s.Ok) (o k n c : Int) : (s.leaveOp o k n c).2.Ok := by
  unfold SS.leaveOp
  cases hp : s.pool k with
  | none => exact h
  | some q =>
    have hl := h.lt hp
    simp only
    split
    · exact h
    · next hc =>
      obtain ⟨c0, c1⟩ := cycleC_zero.1 (Decidable.not_not.1 hc)
      split
      · exact h
      · split
        · exact h
        · refine (h.setP hl.1 hl.2 (QS.takeOp_ok (h.poolOk hp) o n)).setW (QS.joinOp_ok (SS.findOr_ok h k c) o n) ?_ c0 c1
          unfold SS.is; rw [SS.pool_setP h hl.1 hl.2, if_pos rfl]; rfl
theorem SS.freeOp_ok {s : SS} (h : s.Ok) (o c : Int) : (s.freeOp o c).2.2.Ok := by
  have := h.mapW (WP.left_b o c) (WP.left_ok o c)
  unfold SS.freeOp
  split
  · exact h
  · split <;> exact this
theorem SS.slashOp_ok {s : SS} (h : s.Ok) (k f p : Int) : (s.slashOp k f p).2.2.Ok := by
  unfold SS.slashOp
  cases hp : s.pool k with
  | none => exact h
  | some q =>
    have hl := h.lt hp
    simp only
    split
    · exact h
    · exact (h.setP hl.1 hl.2 (QS.slashOp_ok (h.poolOk hp) p)).mapW (WP.slash_b k f p) (WP.slash_ok k f p)
end Go.Proofs.YtajnfkmkombajacDoor
