/-
  Plain: what all pools of stakes hold together, act by act. No program in sight.
  Plain: bends. No program in sight.
  Plain: what package issue reckons. No program in sight.
  A chain as plain numbers: what each call answers and leaves; that its sums are right. No program in sight.
-/
import Derived.Test.YtajnfkmkombajaaGreatDoorQSP03
import Derived.Test.YtajnfkmkombajaaGreatDoorQSP01
import Derived.Test.YtajnfkmkombajaaGreatDoorQSP02
set_option linter.unusedVariables false
set_option linter.unusedSimpArgs false
set_option linter.unusedVariables false
namespace Go.Proofs.YtajnfkmkombajaaGreatDoor
open Go.RowKit
theorem sum_map_set {α : Type} (f : α → Int) : ∀ (l : List α) (i : Nat) (a b : α), l[i]? = some a → ((l.set i b).map f).sum = (l.map f).sum - f a + f b
 | [], i, a, b, h => by simp at h
 | x :: r, 0, a, b, h => by simp at h; subst h; simp; omega
 | x :: r, i + 1, a, b, h => by
   have := sum_map_set f r i a b (by simpa using h)
   simp only [List.set_cons_succ, List.map_cons, List.sum_cons, this]; omega
theorem sum_map_add {α : Type} (f g h : α → Int) (l : List α) (hh : ∀ x ∈ l, f x = g x + h x) : (l.map f).sum = (l.map g).sum + (l.map h).sum := by
 induction l with
 | nil => rfl
 | cons a r ih =>
   have h1 := hh a (by simp); have h2 := ih (fun x hx => hh x (by simp [hx]))
   simp only [List.map_cons, List.sum_cons]; omega
theorem SS.total_setP {s : SS} (h : s.Ok) {k : Int} {q : QS} (hk : s.pool k = some q) (q' : QS) : (s.setP k q').total = s.total - q.total + q'.total := by
 unfold SS.total SS.setP
 simp only [sum_map_set optT s.P k.toNat (some q) (some q') (h.at hk)]
 simp only [optT, Option.map_some, Option.getD_some]; omega
theorem sum_put : ∀ (l : List WP) (k c : Int) (q q' : QS), (l.Pairwise fun x y => ¬ (x.b = y.b ∧ x.c = y.c)) → ⟨k, c, q⟩ ∈ l → ((l.map (WP.put k c q')).map (·.q.total)).sum = (l.map (·.q.total)).sum - q.total + q'.total
 | [], _, _, _, _, _, h => by cases h
 | x :: r, k, c, q, q', hp, h => by
   obtain ⟨p1, p2⟩ := List.pairwise_cons.1 hp
   simp only [List.map_cons, List.sum_cons]
   rcases List.mem_cons.1 h with e | e
   · subst e
     have e1 : WP.put k c q' ⟨k, c, q⟩ = ⟨k, c, q'⟩ := by unfold WP.put; rw [if_pos (WP.at_iff.2 ⟨rfl, rfl⟩)]
     have e2 : r.map (WP.put k c q') = r := by
       rw [List.map_congr_left (g := id)]
       · simp
       · intro y hy
         unfold WP.put; rw [if_neg]
         · rfl
         · intro hat; have := WP.at_iff.1 hat; exact p1 y hy ⟨this.1.symm, this.2.symm⟩
     rw [e1, e2]; simp only; omega
   · have e1 : WP.put k c q' x = x := by
       unfold WP.put; rw [if_neg]
       intro hat; have := WP.at_iff.1 hat
       exact p1 _ e ⟨this.1, this.2⟩
     rw [e1, sum_put r k c q q' p2 e]; omega
theorem SS.total_setW {s : SS} (h : s.Ok) (k c : Int) (q' : QS) : (s.setW k c q').total = s.total - ((s.find k c).getD ⟨0, 0, []⟩).total + q'.total := by
 unfold SS.setW SS.total
 cases hf : s.find k c with
 | some q =>
   simp only [Option.isSome_some, if_true, Option.getD_some]
   rw [sum_put s.W k c q q' h.apart (SS.find_some hf)]; omega
 | none =>
   simp only [Option.isSome_none, Bool.false_eq_true, if_false, Option.getD_none, List.map_append, List.sum_append, List.map_cons, List.map_nil, List.sum_cons, List.sum_nil]; omega
/-! ### pools, act by act -/
theorem QS.join_total {q : QS} (o n : Int) : ((q.joinOp o n).1 = 0 → (q.joinOp o n).2.total = q.total + n) ∧ ((q.joinOp o n).1 ≠ 0 → (q.joinOp o n).2 = q) := by
 unfold QS.joinOp
 repeat' split
 all_goals (refine ⟨fun h => ?_, fun h => ?_⟩ <;> simp_all [QS.change])
theorem QS.take_total {q : QS} (o n : Int) : ((q.takeOp o n).1 = 0 → (q.takeOp o n).2.total = q.total - n) ∧ ((q.takeOp o n).1 ≠ 0 → (q.takeOp o n).2 = q) := by
 unfold QS.takeOp
 repeat' split
 all_goals (refine ⟨fun h => ?_, fun h => ?_⟩ <;> simp_all [QS.change] <;> omega)
theorem QS.leave_total {q : QS} (o : Int) : (q.leaveOp o).2.2.total = q.total - (q.leaveOp o).1 ∧ ((q.leaveOp o).2.1 ≠ 0 → (q.leaveOp o).1 = 0 ∧ (q.leaveOp o).2.2 = q) := by
 unfold QS.leaveOp
 repeat' split
 all_goals (refine ⟨?_, fun h => ?_⟩ <;> simp_all [QS.change] <;> omega)
theorem QS.leave_pos {q : QS} (h : q.Ok) (o : Int) : 0 ≤ (q.leaveOp o).1 ∧ (q.leaveOp o).1 ≤ 1125899906842624 := by
 have hv := h.value_bd o
 have ht := h.t1
 unfold QS.leaveOp
 repeat' split
 all_goals simp only
 all_goals omega
theorem QS.add_total {q : QS} (n : Int) : ((q.addOp n).1 = 0 → (q.addOp n).2.total = q.total + n) ∧ ((q.addOp n).1 ≠ 0 → (q.addOp n).2 = q) := by
 unfold QS.addOp
 repeat' split
 all_goals (refine ⟨fun h => ?_, fun h => ?_⟩ <;> simp_all)
theorem QS.slash_total {q : QS} (h : q.Ok) (p : Int) : (q.slashOp p).2.2.total = q.total - (q.slashOp p).1 ∧ (0 ≤ (q.slashOp p).1 ∧ (q.slashOp p).1 ≤ 1125899906842624) ∧ ((q.slashOp p).2.1 ≠ 0 → (q.slashOp p).1 = 0 ∧ (q.slashOp p).2.2 = q) ∧ ((q.slashOp p).2.1 = 0 ↔ 0 ≤ p ∧ p ≤ 100) := by
 have t1 := h.t1
 unfold QS.slashOp
 split
 · next hc => refine ⟨by simp, by simp, fun _ => ⟨rfl, rfl⟩, by simp; omega⟩
 · next hc =>
   have := slash_bd h.t0 (show 0 ≤ p by omega) (by omega)
   refine ⟨rfl, by simp only; omega, fun h => absurd rfl h, by simp; omega⟩
/-! ### all acts -/
theorem SS.join_total {s : SS} (h : s.Ok) (o k n : Int) : ((s.joinOp o k n).1 = 0 → (s.joinOp o k n).2.total = s.total + n) ∧ ((s.joinOp o k n).1 ≠ 0 → (s.joinOp o k n).2.total = s.total) := by
 unfold SS.joinOp
 cases hp : s.pool k with
 | none => exact ⟨fun h => (by cases h), fun _ => rfl⟩
 | some q =>
   obtain ⟨a, b⟩ := QS.join_total (q := q) o n
   simp only
   rw [SS.total_setP h hp]
   exact ⟨fun hc => by rw [a hc]; omega, fun hc => by rw [b hc]; omega⟩
theorem SS.add_total {s : SS} (h : s.Ok) (k n : Int) : ((s.addOp k n).1 = 0 → (s.addOp k n).2.total = s.total + n) ∧ ((s.addOp k n).1 ≠ 0 → (s.addOp k n).2.total = s.total) := by
 unfold SS.addOp
 cases hp : s.pool k with
 | none => exact ⟨fun h => (by cases h), fun _ => rfl⟩
 | some q =>
   obtain ⟨a, b⟩ := QS.add_total (q := q) n
   simp only
   rw [SS.total_setP h hp]
   exact ⟨fun hc => by rw [a hc]; omega, fun hc => by rw [b hc]; omega⟩
theorem SS.leave_total {s : SS} (h : s.Ok) (o k n c : Int) : (s.leaveOp o k n c).2.total = s.total := by
 unfold SS.leaveOp
 cases hp : s.pool k with
 | none => rfl
 | some q =>
   have hl := h.lt hp
   simp only
   split
   · rfl
   · split
     · rfl
     · next hc =>
       split
       · rfl
       · next hw =>
         have h1 := h.setP hl.1 hl.2 (QS.takeOp_ok (h.poolOk hp) o n)
         rw [SS.total_setW h1, SS.total_setP h hp, (QS.take_total o n).1 (Decidable.not_not.1 hc), (QS.join_total o n).1 (Decidable.not_not.1 hw)]
         have e : (s.setP k (q.takeOp o n).2).find k c = s.find k c := rfl
         rw [e]
         cases s.find k c with
         | none => simp [QS.new]; omega
         | some z => simp; omega
theorem SS.free_total {s : SS} (h : s.Ok) (o c : Int) : (s.freeOp o c).2.2.total = s.total - (s.freeOp o c).1 ∧ 0 ≤ (s.freeOp o c).1 ∧ ((s.freeOp o c).2.1 ≠ 0 → (s.freeOp o c).1 = 0) := by
 have hsum : ((s.W.map (·.left o c)).map (·.q.total)).sum = (s.W.map (·.q.total)).sum - (s.W.map (·.gets o c)).sum := by
   have := sum_map_add (fun x : WP => x.q.total) (fun x => (x.left o c).q.total) (·.gets o c) s.W (fun x hx => by
     obtain ⟨l1, l2⟩ := QS.leave_total (q := x.q) o
     unfold WP.left WP.gets
     split
     · simp only; split
       · omega
       · next hne => have := l2 hne; omega
     · simp)
   rw [List.map_map]
   have e : (s.W.map ((fun x : WP => x.q.total) ∘ fun x => x.left o c)).sum = (s.W.map fun x => (x.left o c).q.total).sum := rfl
   rw [e]; omega
 have hpos : 0 ≤ (s.W.map (·.gets o c)).sum := by
   have : ∀ x ∈ s.W.map (·.gets o c), 0 ≤ x := by
     intro x hx
     obtain ⟨y, hy, rfl⟩ := List.mem_map.1 hx
     have := (QS.leave_pos (h.waits y hy).1 o).1
     unfold WP.gets; repeat' split
     all_goals omega
   exact (sum_le_of_nonneg this 0).2.1
 unfold SS.freeOp
 split
 · exact ⟨by simp, by simp, fun _ => rfl⟩
 · split
   · refine ⟨?_, hpos, fun h => absurd rfl h⟩
     unfold SS.total; simp only; omega
   · next hn =>
     have hz : (s.W.map (·.gets o c)).sum = 0 := by
       have : s.W.map (·.gets o c) = s.W.map fun _ => (0 : Int) := by
         apply List.map_congr_left
         intro x hx
         have hx' : x.has o c = false := by
           simp only [List.any_eq_true, not_exists, not_and] at hn
           simpa using hn x hx
         unfold WP.has at hx'; unfold WP.gets
         split
         · next hf => rw [hf] at hx'; simp at hx'; rw [if_neg hx']
         · rfl
       rw [this]
       clear this hsum hpos hn h
       induction s.W with
       | nil => rfl
       | cons a r ih => simpa using ih
     refine ⟨?_, by simp, fun _ => rfl⟩
     unfold SS.total; simp only; omega
theorem SS.slash_total {s : SS} (h : s.Ok) (k f p : Int) : (s.slashOp k f p).2.2.total = s.total - (s.slashOp k f p).1 ∧ 0 ≤ (s.slashOp k f p).1 ∧ ((s.slashOp k f p).2.1 ≠ 0 → (s.slashOp k f p).1 = 0) := by
 unfold SS.slashOp
 cases hp : s.pool k with
 | none => exact ⟨by simp, by simp, fun _ => rfl⟩
 | some q =>
   obtain ⟨q1, q2, q3, q4⟩ := QS.slash_total (h.poolOk hp) p
   simp only
   split
   · exact ⟨by simp, by simp, fun _ => rfl⟩
   · next hc =>
     have hsum : ((s.W.map (·.slash k f p)).map (·.q.total)).sum = (s.W.map (·.q.total)).sum - (s.W.map (·.loses k f p)).sum := by
       have := sum_map_add (fun x : WP => x.q.total) (fun x => (x.slash k f p).q.total) (·.loses k f p) s.W (fun x hx => by
         obtain ⟨l1, _⟩ := QS.slash_total (h.waits x hx).1 p
         unfold WP.slash WP.loses
         split
         · simp only; omega
         · simp)
       rw [List.map_map]
       have e : (s.W.map ((fun x : WP => x.q.total) ∘ fun x => x.slash k f p)).sum = (s.W.map fun x => (x.slash k f p).q.total).sum := rfl
       rw [e]; omega
     have hpos : 0 ≤ (s.W.map (·.loses k f p)).sum := by
       have : ∀ x ∈ s.W.map (·.loses k f p), 0 ≤ x := by
         intro x hx
         obtain ⟨y, hy, rfl⟩ := List.mem_map.1 hx
         have := (QS.slash_total (h.waits y hy).1 p).2.1
         unfold WP.loses; split
         all_goals omega
       exact (sum_le_of_nonneg this 0).2.1
     have hP := SS.total_setP h hp (q.slashOp p).2.2
     unfold SS.setP SS.total at hP
     simp only at hP
     refine ⟨?_, by omega, fun h => absurd rfl h⟩
     unfold SS.total; simp only; omega
theorem SS.Ok.total_bd {s : SS} (h : s.Ok) : 0 ≤ s.total ∧ s.total ≤ 1125899906842624 * (3 + (s.W.length : Int)) := by
 have h1 : ∀ l : List (Option QS), (∀ q, some q ∈ l → q.Ok) → 0 ≤ (l.map optT).sum ∧ (l.map optT).sum ≤ 1125899906842624 * (l.length : Int) := by
   intro l hl
   induction l with
   | nil => simp
   | cons a r ih =>
     have := ih (fun q hq => hl q (by simp [hq]))
     have ha : 0 ≤ optT a ∧ optT a ≤ 1125899906842624 := by
       cases a with
       | none => simp [optT]
       | some q => have hq := hl q (by simp); exact ⟨hq.t0, hq.t1⟩
     simp only [List.map_cons, List.sum_cons, List.length_cons]; omega
 have h2 : ∀ l : List WP, (∀ x ∈ l, x.q.Ok) → 0 ≤ (l.map (·.q.total)).sum ∧ (l.map (·.q.total)).sum ≤ 1125899906842624 * (l.length : Int) := by
   intro l hl
   induction l with
   | nil => simp
   | cons a r ih =>
     have := ih (fun q hq => hl q (by simp [hq]))
     have ha := hl a (by simp)
     have := ha.t0; have := ha.t1
     simp only [List.map_cons, List.sum_cons, List.length_cons]; omega
 have p1 := h1 s.P h.pools
 have p2 := h2 s.W (fun x hx => (h.waits x hx).1)
 rw [h.three] at p1
 unfold SS.total; omega
end Go.Proofs.YtajnfkmkombajaaGreatDoor
namespace Go.Proofs.YtajnfkmkombajaaGreatDoor
open Go.RowKit
structure RdP (w : World) (ao : Option Addr) (len cap : Nat) (l : List (Int × Int)) : Prop where
 size : l.length = len
 lc : len ≤ cap
 cm : cap ≤ maxLen
 nul : ao = none → cap = 0
 wf : ∀ p ∈ l, (-9223372036854775808 ≤ p.1 ∧ p.1 ≤ 9223372036854775807) ∧ (-9223372036854775808 ≤ p.2 ∧ p.2 ≤ 9223372036854775807)
 cells : ∀ i, i < len → ∃ b off, ao = some ⟨b, off, none⟩ ∧ w.cell? ⟨b, off + i * 2, none⟩ = some (.int .i64 (l.getD i (0, 0)).1) ∧ w.cell? ⟨b, off + i * 2 + 1, none⟩ = some (.int .i64 (l.getD i (0, 0)).2)
theorem RdP.split {w : World} {ao : Option Addr} {len cap : Nat} {l : List (Int × Int)} (h : RdP w ao len cap l) :
   (len = 0 ∧ l = []) ∨ (0 < len ∧ ∃ b off, ao = some ⟨b, off, none⟩ ∧ b < w.heap.size ∧ ∀ i, i < len → w.cell? ⟨b, off + i * 2, none⟩ = some (.int .i64 (l.getD i (0, 0)).1) ∧ w.cell? ⟨b, off + i * 2 + 1, none⟩ = some (.int .i64 (l.getD i (0, 0)).2)) := by
 rcases Nat.eq_zero_or_pos len with h0 | h0
 · exact .inl ⟨h0, List.eq_nil_of_length_eq_zero (by rw [h.size, h0])⟩
 · obtain ⟨b, off, ha, hc, _⟩ := h.cells 0 h0
   refine .inr ⟨h0, b, off, ha, World.block_lt_of_cell? w _ hc, fun i hi => ?_⟩
   obtain ⟨b', off', ha', hc'⟩ := h.cells i hi
   rw [ha] at ha'; cases ha'; exact hc'
theorem RdP.below {w w' : World} {ao : Option Addr} {len cap : Nat} {l : List (Int × Int)} (h : RdP w ao len cap l) (hb : Below w.heap.size w w') : RdP w' ao len cap l := by
 refine ⟨h.size, h.lc, h.cm, h.nul, h.wf, fun i hi => ?_⟩
 obtain ⟨b, off, ha, hc, hd⟩ := h.cells i hi
 exact ⟨b, off, ha, by rw [hb.cell (p := ⟨b, off + i * 2, none⟩) (World.block_lt_of_cell? w _ hc)]; exact hc, by rw [hb.cell (p := ⟨b, off + i * 2 + 1, none⟩) (World.block_lt_of_cell? w _ hd)]; exact hd⟩
def ptBad (p : Int × Int) : Prop := p.1 < 0 ∨ 1000000 < p.1 ∨ p.2 < 0 ∨ 1000000 < p.2
instance (p : Int × Int) : Decidable (ptBad p) := by unfold ptBad; infer_instance
def chk : Nat → Option Int → List (Int × Int) → Nat × Int
 | _, _, [] => (0, -1)
 | i, none, p :: r => if ptBad p then (2, i) else chk (i + 1) (some p.1) r
 | i, some x, p :: r => if ptBad p then (2, i) else if p.1 ≤ x then (3, i) else chk (i + 1) (some p.1) r
def checkF (l : List (Int × Int)) : Nat × Int := if l.length < 2 ∨ 8 < l.length then (3, -1) else chk 0 none l
def bendGo : List (Int × Int) → Int → Int
 | [], _ => 0
 | [p], _ => p.2
 | p :: q :: r, x => if x < q.1 then p.2 + (q.2 - p.2) * (x - p.1) / (q.1 - p.1) else bendGo (q :: r) x
def bendV (l : List (Int × Int)) (x : Int) : Int := if x < (l.getD 0 (0, 0)).1 then (l.getD 0 (0, 0)).2 else bendGo l x
def bendF (l : List (Int × Int)) (x : Int) : Nat × Int := if (checkF l).1 ≠ 0 then checkF l else if x < 0 ∨ 1000000 < x then (2, -1) else (0, -1)
structure BendOk (l : List (Int × Int)) : Prop where
 two : 2 ≤ l.length
 eight : l.length ≤ 8
 good : ∀ i, i < l.length → ¬ ptBad (l.getD i (0, 0))
 rise : ∀ i, i + 1 < l.length → (l.getD i (0, 0)).1 < (l.getD (i + 1) (0, 0)).1
theorem chk_ok : ∀ (r : List (Int × Int)) (i : Nat) (o : Option Int), (chk i o r).1 = 0 → (∀ j, j < r.length → ¬ ptBad (r.getD j (0, 0))) ∧ (∀ j, j + 1 < r.length → (r.getD j (0, 0)).1 < (r.getD (j + 1) (0, 0)).1) ∧ ∀ x, o = some x → 0 < r.length → x < (r.getD 0 (0, 0)).1
 | [], _, _, _ => ⟨fun j h => by simp at h, fun j h => by simp at h, fun x _ h => by simp at h⟩
 | p :: r, i, o, h => by
   have key : ¬ ptBad p ∧ (chk (i + 1) (some p.1) r).1 = 0 ∧ ∀ x, o = some x → x < p.1 := by
     cases o with
     | none =>
       simp only [chk] at h
       split at h
       · cases h
       · rename_i hb; exact ⟨hb, h, fun x hx => by cases hx⟩
     | some x =>
       simp only [chk] at h
       split at h
       · cases h
       · rename_i hb
         split at h
         · cases h
         · rename_i hx; exact ⟨hb, h, fun y hy => by cases hy; omega⟩
   obtain ⟨k1, k2, k3⟩ := key
   obtain ⟨a, b, c⟩ := chk_ok r (i + 1) (some p.1) k2
   refine ⟨fun j hj => ?_, fun j hj => ?_, fun x hx _ => by simpa using k3 x hx⟩
   · cases j with
     | zero => simpa using k1
     | succ j => simpa using a j (by simpa using hj)
   · cases j with
     | zero => simpa using c p.1 rfl (by simpa using hj)
     | succ j => simpa using b j (by simpa using hj)
theorem check_ok {l : List (Int × Int)} (h : (checkF l).1 = 0) : BendOk l := by
 unfold checkF at h
 split at h
 · cases h
 · rename_i hn
   obtain ⟨a, b, _⟩ := chk_ok l 0 none h
   exact ⟨by omega, by omega, a, b⟩
def prevX (l : List (Int × Int)) (k : Nat) : Option Int := if k = 0 then none else some (l.getD (k - 1) (0, 0)).1
theorem drop_get {l : List (Int × Int)} {k : Nat} (h : k < l.length) : l.drop k = l.getD k (0, 0) :: l.drop (k + 1) := by
 rw [List.drop_eq_getElem_cons h]; simp [List.getD_eq_getElem?_getD, List.getElem?_eq_getElem h]
theorem chk_bad {l : List (Int × Int)} {k : Nat} (h : k < l.length) (hb : ptBad (l.getD k (0, 0))) : chk k (prevX l k) (l.drop k) = (2, (k : Int)) := by
 rw [drop_get h]; unfold prevX; split <;> simp only [chk, if_pos hb]
theorem chk_shape {l : List (Int × Int)} {k : Nat} (h : k < l.length) (hb : ¬ ptBad (l.getD k (0, 0))) (hk : 0 < k) (hx : (l.getD k (0, 0)).1 ≤ (l.getD (k - 1) (0, 0)).1) : chk k (prevX l k) (l.drop k) = (3, (k : Int)) := by
 rw [drop_get h]; unfold prevX; rw [if_neg (by omega)]; simp only [chk, if_neg hb, if_pos hx]
theorem chk_next {l : List (Int × Int)} {k : Nat} (h : k < l.length) (hb : ¬ ptBad (l.getD k (0, 0))) (hx : k = 0 ∨ (l.getD (k - 1) (0, 0)).1 < (l.getD k (0, 0)).1) : chk k (prevX l k) (l.drop k) = chk (k + 1) (prevX l (k + 1)) (l.drop (k + 1)) := by
 rw [drop_get h]
 have e : prevX l (k + 1) = some (l.getD k (0, 0)).1 := by unfold prevX; rw [if_neg (by omega)]; rfl
 rw [e]
 unfold prevX
 split
 · simp only [chk, if_neg hb]
 · rename_i h0
   have : ¬ (l.getD k (0, 0)).1 ≤ (l.getD (k - 1) (0, 0)).1 := by rcases hx with h | h <;> omega
   simp only [chk, if_neg hb, if_neg this]
theorem chk_done {l : List (Int × Int)} {k : Nat} (h : l.length ≤ k) : chk k (prevX l k) (l.drop k) = (0, -1) := by
 rw [List.drop_eq_nil_of_le h]; unfold prevX; split <;> rfl
theorem checkF_in {l : List (Int × Int)} (h : ¬ (l.length < 2 ∨ 8 < l.length)) : checkF l = chk 0 (prevX l 0) (l.drop 0) := by
 unfold checkF; rw [if_neg h]; rfl
theorem checkF_out {l : List (Int × Int)} (h : l.length < 2 ∨ 8 < l.length) : checkF l = (3, -1) := by
 unfold checkF; rw [if_pos h]
theorem ptBad_cases {x y : Int} : x < 0 ∨ (0 ≤ x ∧ 1000000 < x) ∨ (0 ≤ x ∧ x ≤ 1000000 ∧ y < 0) ∨ (0 ≤ x ∧ x ≤ 1000000 ∧ 0 ≤ y ∧ 1000000 < y) ∨ (0 ≤ x ∧ x ≤ 1000000 ∧ 0 ≤ y ∧ y ≤ 1000000) := by omega
theorem chk_zero : ∀ (r : List (Int × Int)) (i : Nat) (o : Option Int), (chk i o r).1 = 0 → chk i o r = (0, -1)
 | [], _, _, _ => rfl
 | p :: r, i, none, h => by
   simp only [chk] at h ⊢
   split at h
   · cases h
   · rename_i hb; rw [if_neg hb]; exact chk_zero r _ _ h
 | p :: r, i, some x, h => by
   simp only [chk] at h ⊢
   split at h
   · cases h
   · rename_i hb
     rw [if_neg hb]
     split at h
     · cases h
     · rename_i hx; rw [if_neg hx]; exact chk_zero r _ _ h
theorem checkF_zero {l : List (Int × Int)} (h : (checkF l).1 = 0) : checkF l = (0, -1) := by
 unfold checkF at h ⊢
 split at h
 · cases h
 · rename_i hn; rw [if_neg hn]; exact chk_zero _ _ _ h
theorem bendGo_step {l : List (Int × Int)} {k : Nat} {x : Int} (h : k + 1 < l.length) (hx : ¬ x < (l.getD (k + 1) (0, 0)).1) : bendGo (l.drop k) x = bendGo (l.drop (k + 1)) x := by
 rw [drop_get (by omega : k < l.length), drop_get h]
 simp only [bendGo, if_neg hx]
theorem bendGo_here {l : List (Int × Int)} {k : Nat} {x : Int} (h : k + 1 < l.length) (hx : x < (l.getD (k + 1) (0, 0)).1) :
   bendGo (l.drop k) x = (l.getD k (0, 0)).2 + ((l.getD (k + 1) (0, 0)).2 - (l.getD k (0, 0)).2) * (x - (l.getD k (0, 0)).1) / ((l.getD (k + 1) (0, 0)).1 - (l.getD k (0, 0)).1) := by
 rw [drop_get (by omega : k < l.length), drop_get h]
 simp only [bendGo, if_pos hx]
theorem bendGo_last {l : List (Int × Int)} {k : Nat} {x : Int} (h : k + 1 = l.length) : bendGo (l.drop k) x = (l.getD k (0, 0)).2 := by
 rw [drop_get (by omega : k < l.length), List.drop_eq_nil_of_le (by omega)]
 rfl
theorem bend_mul {p q : Int × Int} {x : Int} (hp : ¬ ptBad p) (hq : ¬ ptBad q) (h0 : 0 ≤ x) (h1 : x ≤ 1000000) :
   -1000000000000 ≤ (q.2 - p.2) * (x - p.1) ∧ (q.2 - p.2) * (x - p.1) ≤ 1000000000000 := by
 unfold ptBad at hp hq
 have h : ((q.2 - p.2) * (x - p.1)).natAbs ≤ 1000000 * 1000000 := by
   rw [Int.natAbs_mul]; exact Nat.mul_le_mul (by omega) (by omega)
 omega
end Go.Proofs.YtajnfkmkombajaaGreatDoor
namespace Go.Proofs.YtajnfkmkombajaaGreatDoor
open Go.RowKit
def rateL : List (Int × Int) := [(0, 40000), (250000, 20000), (500000, 10000), (1000000, 5000)]
theorem rateL_right : (checkF rateL).1 = 0 := by decide
theorem rateL_at {x : Int} (h0 : 0 ≤ x) (h1 : x ≤ 1000000) : bendV rateL x =
   if x < 250000 then 40000 + (-20000) * x / 250000 else if x < 500000 then 20000 + (-10000) * (x - 250000) / 250000 else if x < 1000000 then 10000 + (-5000) * (x - 500000) / 500000 else 5000 := by
 unfold bendV
 rw [if_neg (by simp [rateL]; omega)]
 simp only [rateL, bendGo]
 simp only [show (20000 : Int) - 40000 = -20000 from rfl, show (10000 : Int) - 20000 = -10000 from rfl, show (5000 : Int) - 10000 = -5000 from rfl, Int.sub_zero, show (500000 : Int) - 250000 = 250000 from rfl, show (1000000 : Int) - 500000 = 500000 from rfl]
theorem rateL_bounds {x : Int} (h0 : 0 ≤ x) (h1 : x ≤ 1000000) : 5000 ≤ bendV rateL x ∧ bendV rateL x ≤ 40000 := by
 rw [rateL_at h0 h1]; split
 · omega
 · split
   · omega
   · split <;> omega
def ratioOk (s p : Int) : Prop := 0 ≤ s ∧ s ≤ p ∧ 1 ≤ p ∧ p ≤ 1125899906842624
instance (s p : Int) : Decidable (ratioOk s p) := by unfold ratioOk; infer_instance
def ratioN (s p : Int) : Int := if ratioOk s p then s * 1000000 / p else 0
def ratioC (s p : Int) : Nat := if ratioOk s p then 0 else 2
theorem ratio_over {s p : Int} (h : ratioOk s p) : overOk s 1000000 p := by
 obtain ⟨h0, h1, h2, h3⟩ := h
 have : s * 1000000 / p ≤ 1000000 := by
   have h := Int.ediv_le_ediv (show 0 < p by omega) (show s * 1000000 ≤ 1000000 * p by omega)
   rwa [Int.mul_ediv_cancel _ (show p ≠ 0 by omega)] at h
 exact ⟨by omega, by omega, by omega, by omega⟩
theorem ratio_in {s p : Int} (h : ratioOk s p) : 0 ≤ ratioN s p ∧ ratioN s p ≤ 1000000 := by
 unfold ratioN; rw [if_pos h]
 obtain ⟨h0, h1, h2, h3⟩ := h
 have : s * 1000000 / p ≤ 1000000 := by
   have h := Int.ediv_le_ediv (show 0 < p by omega) (show s * 1000000 ≤ 1000000 * p by omega)
   rwa [Int.mul_ediv_cancel _ (show p ≠ 0 by omega)] at h
 exact ⟨Int.ediv_nonneg (by omega) (by omega), this⟩
def rateOk (r b : Int) : Prop := 0 ≤ r ∧ r ≤ 1000000 ∧ 0 ≤ b ∧ b ≤ 5000
instance (s p : Int) : Decidable (rateOk s p) := by unfold rateOk; infer_instance
def rateC (r b : Int) : Nat := if rateOk r b then 0 else 2
def rateN (r b : Int) : Int := if rateOk r b then bendV rateL r + b else 0
def bonusN (b r : Int) : Int := if rateOk r b then (if r < 480000 then min 5000 (b + 100) else if 520000 < r then max 0 (b - 100) else b) else 0
def rewardOk (s r : Int) : Prop := (0 ≤ s ∧ s ≤ 1125899906842624) ∧ 0 ≤ r ∧ r ≤ 1000000
instance (s p : Int) : Decidable (rewardOk s p) := by unfold rewardOk; infer_instance
def rewardC (s r : Int) : Nat := if rewardOk s r then 0 else 2
def rewardN (s r : Int) : Int := if rewardOk s r then s * r / 1000000 / 4 else 0
theorem reward_over {s r : Int} (h : rewardOk s r) : overOk s r 1000000 := by
 obtain ⟨⟨h0, h1⟩, h2, h3⟩ := h
 have h4 : s * r ≤ s * 1000000 := Int.mul_le_mul_of_nonneg_left h3 h0
 exact ⟨by omega, by omega, by omega, by omega⟩
theorem reward_in {s r : Int} (h : rewardOk s r) : 0 ≤ rewardN s r ∧ rewardN s r ≤ s := by
 have h4 : s * r ≤ s * 1000000 := Int.mul_le_mul_of_nonneg_left h.2.2 h.1.1
 have h5 : 0 ≤ s * r := Int.mul_nonneg h.1.1 h.2.1
 unfold rewardN; rw [if_pos h]
 omega
end Go.Proofs.YtajnfkmkombajaaGreatDoor
namespace Go.Proofs.YtajnfkmkombajaaGreatDoor
open Go.RowKit
structure EV where
 b : Int
 c : Int
 n : Int
deriving DecidableEq
structure KS where
 L : List (Int × EV)
 done : Nat
def KS.new : KS := ⟨[], 0⟩
def KS.due (k : KS) : List (Int × EV) := k.L.drop k.done
def KS.code (k : KS) (o : Int) (e : EV) (cy : Int) : Nat :=
 if ownB o = false ∨ e.b < 0 ∨ 3 ≤ e.b ∨ e.n < 0 ∨ cy < 0 ∨ 1048576 < cy then 2
 else if cy < e.c ∨ e.c < cy - 2 ∨ e.c < 0 then 10 else if k.L.any (fun x => decide (x.2 = e)) then 5 else 0
def KS.accuse (k : KS) (o : Int) (e : EV) (cy : Int) : Nat × KS := if k.code o e cy ≠ 0 then (k.code o e cy, k) else (0, ⟨k.L ++ [(o, e)], k.done⟩)
def KS.asked (k : KS) : KS := ⟨k.L, k.L.length⟩
def pct (n : Int) : Int := if n.tmod 2 = 0 then 5 else 50
structure CS where
 p : PS
 s : SS
 k : KS
 cycle : Int
 level : Int
 bonus : Int
 pics : List (List Int)
def pic1 (n : Int) : Int := if n < 100 then 0 else if 1073741824 < n then 1073741824 else n
def SS.picture (s : SS) : List Int := [pic1 (s.staked 0), pic1 (s.staked 1), pic1 (s.staked 2)]
def CS.stakedAll (c : CS) : Int := c.s.staked 0 + c.s.staked 1 + c.s.staked 2
def CS.ratio (c : CS) : Int := ratioN c.stakedAll c.p.supply
def CS.stakeOp (c : CS) (o b n : Int) : Nat × CS :=
 if (c.p.outOp o n).1 ≠ 0 then ((c.p.outOp o n).1, c)
 else if (c.s.joinOp o b n).1 ≠ 0 then ((c.s.joinOp o b n).1, { c with p := ((c.p.outOp o n).2.inOp o n).2, s := (c.s.joinOp o b n).2 })
 else (0, { c with p := (c.p.outOp o n).2, s := (c.s.joinOp o b n).2 })
def CS.freeOp (c : CS) (o : Int) : Int × Nat × CS :=
 if (c.s.freeOp o c.cycle).2.1 ≠ 0 then (0, (c.s.freeOp o c.cycle).2.1, { c with s := (c.s.freeOp o c.cycle).2.2 })
 else ((c.s.freeOp o c.cycle).1, (c.p.inOp o (c.s.freeOp o c.cycle).1).1, { c with s := (c.s.freeOp o c.cycle).2.2, p := (c.p.inOp o (c.s.freeOp o c.cycle).1).2 })
def CS.issues (c : CS) : Int := rewardN c.p.supply (rateN c.ratio c.bonus)
def CS.reward (c : CS) (b : Int) : Int × CS :=
 if 1125899906842624 < c.p.supply + c.issues then (0, c)
 else if (c.s.addOp b c.issues).1 ≠ 0 then (0, { c with s := (c.s.addOp b c.issues).2 })
 else if (c.p.growOp c.issues).1 ≠ 0 then (0, { c with s := (c.s.addOp b c.issues).2, p := (c.p.growOp c.issues).2 })
 else (c.issues, { c with s := (c.s.addOp b c.issues).2, p := (c.p.growOp c.issues).2 })
def CS.judge (c : CS) (x : Int × EV) : CS :=
 { c with s := (c.s.slashOp x.2.b x.2.c (pct x.2.n)).2.2, p := ((c.p.inOp x.1 ((c.s.slashOp x.2.b x.2.c (pct x.2.n)).1 / 7)).2.burnOp ((c.s.slashOp x.2.b x.2.c (pct x.2.n)).1 - (c.s.slashOp x.2.b x.2.c (pct x.2.n)).1 / 7)).2 }
def CS.judged (c : CS) : CS := (c.k.due.foldl CS.judge c)
def CS.newPic (c : CS) : List Int := if c.s.picture = [0, 0, 0] then c.pics.getD 2 [] else c.s.picture
def CS.endOp (c : CS) : CS :=
 let d := c.judged
 { d with k := c.k.asked, bonus := bonusN d.bonus d.ratio, cycle := d.cycle + 1, pics := d.pics.drop 1 ++ [d.newPic] }
def CS.stepOp (c : CS) : CS := if (c.level + 1) % 4 = 0 then ({ c with level := c.level + 1 } : CS).endOp else { c with level := c.level + 1 }
/-! ### sums -/
structure CS.Inv (c : CS) : Prop where
 p : c.p.Ok
 s : c.s.Ok
 reg : ∀ k : Int, 0 ≤ k → k < 3 → c.s.is k = true
 bal : c.p.sum + c.s.total = c.p.supply
 known : ∀ x ∈ c.k.L, ownB x.1 = true ∧ (0 ≤ x.2.b ∧ x.2.b < 3) ∧ 0 ≤ x.2.n
 done : c.k.done ≤ c.k.L.length
 b0 : 0 ≤ c.bonus
 b1 : c.bonus ≤ 5000
 three : c.pics.length = 3
 pic : ∀ l ∈ c.pics, l.length = 3 ∧ (∀ x ∈ l, 0 ≤ x ∧ x ≤ 1073741824) ∧ 1 ≤ l.sum
 cy : 0 ≤ c.cycle
 lv : 0 ≤ c.level
theorem SS.is_setP' {s : SS} (h : s.Ok) {k : Int} {q r : QS} (hk : s.pool k = some q) {j : Int} (hj : s.is j = true) : (s.setP k r).is j = true := by
 have := h.lt hk; exact SS.is_setP h this.1 this.2 r hj
theorem SS.is_join {s : SS} (h : s.Ok) (o k n : Int) {j : Int} (hj : s.is j = true) : (s.joinOp o k n).2.is j = true := by
 unfold SS.joinOp
 cases hp : s.pool k with
 | none => exact hj
 | some q => exact SS.is_setP' h hp hj
theorem SS.is_add {s : SS} (h : s.Ok) (k n : Int) {j : Int} (hj : s.is j = true) : (s.addOp k n).2.is j = true := by
 unfold SS.addOp
 cases hp : s.pool k with
 | none => exact hj
 | some q => exact SS.is_setP' h hp hj
theorem SS.is_leave {s : SS} (h : s.Ok) (o k n c : Int) {j : Int} (hj : s.is j = true) : (s.leaveOp o k n c).2.is j = true := by
 unfold SS.leaveOp
 cases hp : s.pool k with
 | none => exact hj
 | some q =>
   simp only
   split
   · exact hj
   · split
     · exact hj
     · split
       · exact hj
       · exact SS.is_setP' h hp hj
theorem SS.is_free {s : SS} (o c : Int) {j : Int} (hj : s.is j = true) : (s.freeOp o c).2.2.is j = true := by
 unfold SS.freeOp
 split
 · exact hj
 · split <;> exact hj
theorem SS.is_slash {s : SS} (h : s.Ok) (k f p : Int) {j : Int} (hj : s.is j = true) : (s.slashOp k f p).2.2.is j = true := by
 unfold SS.slashOp
 cases hp : s.pool k with
 | none => exact hj
 | some q =>
   simp only
   split
   · exact hj
   · exact SS.is_setP' (r := (q.slashOp p).2.2) h hp hj
theorem SS.staked_bd {s : SS} (h : s.Ok) : 0 ≤ s.staked 0 ∧ 0 ≤ s.staked 1 ∧ 0 ≤ s.staked 2 ∧ s.staked 0 + s.staked 1 + s.staked 2 ≤ s.total := by
 have hw : 0 ≤ (s.W.map (·.q.total)).sum := by
   have : ∀ x ∈ s.W.map (·.q.total), 0 ≤ x := by
     intro x hx
     obtain ⟨y, hy, rfl⟩ := List.mem_map.1 hx
     exact (h.waits y hy).1.t0
   exact (sum_le_of_nonneg this 0).2.1
 have hp : ∀ o, o ∈ s.P → 0 ≤ optT o := fun o ho => by
   cases o with
   | none => simp [optT]
   | some q => exact (h.pools q ho).t0
 have h3 := h.three
 match hP : s.P, h3 with
 | [a, b, c], _ =>
   have ea : s.staked 0 = optT a := by unfold SS.staked SS.pool; simp [hP, optT]
   have eb : s.staked 1 = optT b := by unfold SS.staked SS.pool; simp [hP, optT]
   have ec : s.staked 2 = optT c := by unfold SS.staked SS.pool; simp [hP, optT]
   have h0 := hp a (by rw [hP]; simp); have h1 := hp b (by rw [hP]; simp); have h2 := hp c (by rw [hP]; simp)
   refine ⟨by rw [ea]; exact h0, by rw [eb]; exact h1, by rw [ec]; exact h2, ?_⟩
   unfold SS.total; rw [hP]; simp only [List.map_cons, List.map_nil, List.sum_cons, List.sum_nil, ea, eb, ec]; omega
theorem PS.out_sum {p : PS} (o n : Int) : ((p.outOp o n).1 = 0 → (p.outOp o n).2 = p.change o (-n) ∧ lookC o n = 0 ∧ n ≤ p.at o) ∧ ((p.outOp o n).1 ≠ 0 → (p.outOp o n).2 = p) := by
 unfold PS.outOp
 split
 · exact ⟨fun h => (by cases h), fun _ => rfl⟩
 · split
   · exact ⟨fun h => (by cases h), fun _ => rfl⟩
   · next h1 h2 => exact ⟨fun _ => ⟨rfl, Decidable.not_not.1 h1, by omega⟩, fun h => absurd rfl h⟩
theorem PS.in_sum {p : PS} (o n : Int) (h : lookC o n = 0) (h1 : n ≤ p.supply - p.sum) : p.inOp o n = (0, p.change o n) := by
 unfold PS.inOp; rw [if_neg (by simp [h]), if_neg (by omega)]
theorem PS.in_any {p : PS} (o n : Int) : (p.inOp o n).2.supply = p.supply ∧ (p.inOp o n).2.has.length = p.has.length := by
 unfold PS.inOp; repeat' split
 all_goals simp [PS.change]
theorem PS.move_sum {p : PS} (a b n : Int) : (p.moveOp a b n).2.supply = p.supply ∧ ((p.moveOp a b n).2.sum = p.sum ∨ p.supply < p.sum) := by
 unfold PS.moveOp
 split
 · exact ⟨rfl, .inl rfl⟩
 · split
   · next h => rw [(PS.out_sum (p := p) a n).2 h]; exact ⟨rfl, .inl rfl⟩
   · next hb h =>
     obtain ⟨h1, h2, h3⟩ := (PS.out_sum (p := p) a n).1 (Decidable.not_not.1 h)
     rw [h1]
     refine ⟨(PS.in_any _ _).1, ?_⟩
     by_cases hl : p.supply < p.sum
     · exact .inr hl
     · have hb' : lookC b n = 0 := Decidable.not_not.1 hb
       rw [PS.in_sum b n hb' (by simp [PS.change]; omega)]
       left; simp [PS.change]; omega
theorem CS.Inv.withP {c : CS} (h : c.Inv) {p : PS} (hp : p.Ok) (hb : p.sum + c.s.total = p.supply) : ({ c with p := p } : CS).Inv :=
 ⟨hp, h.s, h.reg, hb, h.known, h.done, h.b0, h.b1, h.three, h.pic, h.cy, h.lv⟩
theorem CS.Inv.withPS {c : CS} (h : c.Inv) {p : PS} {s : SS} (hp : p.Ok) (hs : s.Ok) (hr : ∀ k, c.s.is k = true → s.is k = true) (hb : p.sum + s.total = p.supply) : ({ c with p := p, s := s } : CS).Inv :=
 ⟨hp, hs, fun k h0 h3 => hr k (h.reg k h0 h3), hb, h.known, h.done, h.b0, h.b1, h.three, h.pic, h.cy, h.lv⟩
theorem CS.pay_inv {c : CS} (h : c.Inv) (a b n : Int) : ({ c with p := (c.p.moveOp a b n).2 } : CS).Inv ∧ (c.p.moveOp a b n).2.supply = c.p.supply := by
 obtain ⟨h1, h2⟩ := PS.move_sum (p := c.p) a b n
 have hle := h.p.le
 have hb := h.bal
 rcases h2 with h2 | h2
 · exact ⟨h.withP (PS.moveOp_ok h.p a b n) (by rw [h1, h2]; exact hb), h1⟩
 · omega
theorem CS.stake_inv {c : CS} (h : c.Inv) (o b n : Int) : (c.stakeOp o b n).2.Inv ∧ (c.stakeOp o b n).2.p.supply = c.p.supply := by
 have hb := h.bal
 obtain ⟨o1, o2⟩ := PS.out_sum (p := c.p) o n
 obtain ⟨j1, j2⟩ := SS.join_total h.s o b n
 have hjs := SS.joinOp_ok h.s o b n
 unfold CS.stakeOp
 split
 · exact ⟨h, rfl⟩
 · next hc =>
   obtain ⟨e1, e2, e3⟩ := o1 (Decidable.not_not.1 hc)
   have hok := PS.outOp_ok h.p o n
   rw [e1] at hok ⊢
   have hle := h.p.le
   obtain ⟨-, n0, -⟩ := lookC_zero.1 e2
   split
   · next hj =>
     have ei := PS.in_sum (p := c.p.change o (-n)) o n e2 (by simp [PS.change]; omega)
     have hok2 := PS.inOp_ok hok o n
     rw [ei] at hok2 ⊢
     exact ⟨h.withPS hok2 hjs (fun k hk => SS.is_join h.s o b n hk) (by rw [j2 hj]; simp [PS.change]; omega), rfl⟩
   · next hj =>
     exact ⟨h.withPS hok hjs (fun k hk => SS.is_join h.s o b n hk) (by rw [j1 (Decidable.not_not.1 hj)]; simp [PS.change]; omega), rfl⟩
theorem CS.unstake_inv {c : CS} (h : c.Inv) (o b n : Int) : ({ c with s := (c.s.leaveOp o b n c.cycle).2 } : CS).Inv :=
 h.withPS (p := c.p) h.p (SS.leaveOp_ok h.s o b n c.cycle) (fun k hk => SS.is_leave h.s o b n c.cycle hk) (by rw [SS.leave_total h.s]; exact h.bal)
theorem SS.free_owner {s : SS} {o c : Int} (h : (s.freeOp o c).2.1 = 0) : ownB o = true := by
 unfold SS.freeOp at h
 split at h
 · cases h
 · next hn => cases ho : ownB o with
   | true => rfl
   | false => exact absurd (.inr ho) hn
theorem CS.free_inv {c : CS} (h : c.Inv) (o : Int) : (c.freeOp o).2.2.Inv ∧ (c.freeOp o).2.2.p.supply = c.p.supply ∧ ((c.s.freeOp o c.cycle).2.1 = 0 → (c.p.inOp o (c.s.freeOp o c.cycle).1).1 = 0) := by
 have hb := h.bal
 obtain ⟨f1, f2, f3⟩ := SS.free_total h.s o c.cycle
 have fs := SS.freeOp_ok h.s o c.cycle
 have t0 := fs.total_bd.1
 have hm := h.p.most
 have s0 := h.p.sum_bd
 unfold CS.freeOp
 split
 · next hc =>
   refine ⟨h.withPS (p := c.p) h.p fs (fun k hk => SS.is_free o c.cycle hk) ?_, rfl, fun h => absurd h hc⟩
   rw [f1, f3 hc]; omega
 · next hc =>
   have ho := SS.free_owner (Decidable.not_not.1 hc)
   have hl : lookC o (c.s.freeOp o c.cycle).1 = 0 := lookC_zero.2 ⟨ho, f2, by omega⟩
   have ei := PS.in_sum (p := c.p) o _ hl (by omega)
   have hok := PS.inOp_ok h.p o (c.s.freeOp o c.cycle).1
   rw [ei] at hok ⊢
   exact ⟨h.withPS hok fs (fun k hk => SS.is_free o c.cycle hk) (by simp only [PS.change]; omega), rfl, fun _ => rfl⟩
theorem CS.accuse_inv {c : CS} (h : c.Inv) (o : Int) (e : EV) : ({ c with k := (c.k.accuse o e c.cycle).2 } : CS).Inv := by
 refine ⟨h.p, h.s, h.reg, h.bal, fun x hx => ?_, ?_, h.b0, h.b1, h.three, h.pic, h.cy, h.lv⟩
 · unfold KS.accuse at hx
   split at hx
   · exact h.known x hx
   · next hc =>
     rcases List.mem_append.1 hx with hx | hx
     · exact h.known x hx
     · obtain rfl := List.mem_singleton.1 hx
       unfold KS.code at hc
       split at hc
       · simp at hc
       · next hn =>
         have ho : ownB o = true := by cases hob : ownB o with
           | true => rfl
           | false => exact absurd (.inl hob) hn
         exact ⟨ho, by simp only; omega, by simp only; omega⟩
 · have := h.done
   unfold KS.accuse
   split
   · exact this
   · simp; omega
theorem CS.ratio_bd {c : CS} (h : c.Inv) : 0 ≤ c.ratio ∧ c.ratio ≤ 1000000 := by
 unfold CS.ratio
 by_cases hr : ratioOk c.stakedAll c.p.supply
 · exact ratio_in hr
 · unfold ratioN; rw [if_neg hr]; omega
theorem CS.issues_bd {c : CS} (h : c.Inv) : 0 ≤ c.issues ∧ c.issues ≤ 1125899906842624 := by
 unfold CS.issues
 by_cases hr : rewardOk c.p.supply (rateN c.ratio c.bonus)
 · have := reward_in hr; have := h.p.most; omega
 · unfold rewardN; rw [if_neg hr]; omega
theorem CS.reward_inv {c : CS} (h : c.Inv) (b : Int) : (c.reward b).2.Inv ∧ 0 ≤ (c.reward b).1 ∧ (c.reward b).2.p.supply = c.p.supply + (c.reward b).1 ∧ (c.reward b).2.cycle = c.cycle ∧ (c.reward b).2.level = c.level := by
 have hb := h.bal
 have hi := CS.issues_bd h
 obtain ⟨a1, a2⟩ := SS.add_total h.s b c.issues
 have aok := SS.addOp_ok h.s b c.issues
 have hle := h.p.le
 have s0 := h.p.sum_bd
 unfold CS.reward
 split
 · exact ⟨h, by simp, by simp, rfl, rfl⟩
 · next hm =>
   split
   · next ha => exact ⟨h.withPS (p := c.p) h.p aok (fun k hk => SS.is_add h.s b c.issues hk) (by rw [a2 ha]; exact hb), by simp, by simp, rfl, rfl⟩
   · next ha =>
     have hg : c.p.growOp c.issues = (0, c.p.grow c.issues) := by
       unfold PS.growOp; rw [if_pos]; simp only [Bool.and_eq_true, amtB_iff]; omega
     have hok := PS.growOp_ok h.p c.issues
     rw [hg] at hok ⊢
     rw [if_neg (by simp)]
     exact ⟨h.withPS hok aok (fun k hk => SS.is_add h.s b c.issues hk) (by rw [a1 (Decidable.not_not.1 ha)]; simp only [PS.grow]; omega), hi.1, rfl, rfl, rfl⟩
theorem CS.judge_inv {c : CS} (h : c.Inv) {x : Int × EV} (ho : ownB x.1 = true) : (c.judge x).Inv ∧ (c.judge x).p.supply ≤ c.p.supply := by
 have hb := h.bal
 obtain ⟨l1, l2, -⟩ := SS.slash_total h.s x.2.b x.2.c (pct x.2.n)
 have ss := SS.slashOp_ok h.s x.2.b x.2.c (pct x.2.n)
 have hr := fun k hk => SS.is_slash h.s x.2.b x.2.c (pct x.2.n) (j := k) hk
 have t0 := ss.total_bd.1
 have hm := h.p.most
 have s0 := h.p.sum_bd
 unfold CS.judge
 generalize c.s.slashOp x.2.b x.2.c (pct x.2.n) = r at *
 obtain ⟨lost, code, st⟩ := r
 simp only at *
 have hl : lookC x.1 (lost / 7) = 0 := lookC_zero.2 ⟨ho, by omega, by omega⟩
 have ei := PS.in_sum (p := c.p) x.1 (lost / 7) hl (by omega)
 have ok1 := PS.inOp_ok h.p x.1 (lost / 7)
 rw [ei] at ok1 ⊢
 have eb : (c.p.change x.1 (lost / 7)).burnOp (lost - lost / 7) = (0, (c.p.change x.1 (lost / 7)).grow (-(lost - lost / 7))) := by
   unfold PS.burnOp; rw [if_neg (by rw [amtB_false]; omega), if_neg (by simp only [PS.change]; omega)]
 have ok2 := PS.burnOp_ok ok1 (lost - lost / 7)
 rw [eb] at ok2 ⊢
 exact ⟨h.withPS ok2 ss hr (by simp only [PS.grow, PS.change]; omega), by simp only [PS.grow, PS.change]; omega⟩
theorem CS.judges_inv : ∀ (l : List (Int × EV)) {c : CS}, c.Inv → (∀ x ∈ l, ownB x.1 = true) → (l.foldl CS.judge c).Inv ∧ (l.foldl CS.judge c).p.supply ≤ c.p.supply ∧ (l.foldl CS.judge c).k = c.k ∧ (l.foldl CS.judge c).cycle = c.cycle ∧ (l.foldl CS.judge c).level = c.level ∧ (l.foldl CS.judge c).bonus = c.bonus ∧ (l.foldl CS.judge c).pics = c.pics
 | [], c, h, _ => ⟨h, Int.le_refl _, rfl, rfl, rfl, rfl, rfl⟩
 | x :: l, c, h, hx => by
   obtain ⟨h1, h2⟩ := CS.judge_inv h (hx x (by simp))
   obtain ⟨a, b, d1, d2, d3, d4, d5⟩ := CS.judges_inv l h1 (fun y hy => hx y (by simp [hy]))
   exact ⟨a, by simp only [List.foldl_cons]; omega, d1, d2, d3, d4, d5⟩
theorem pic1_bd (n : Int) (h : 0 ≤ n) : 0 ≤ pic1 n ∧ pic1 n ≤ 1073741824 := by unfold pic1; repeat' split
                                                                               all_goals omega
theorem SS.picture_ok {s : SS} (h : s.Ok) : s.picture.length = 3 ∧ (∀ x ∈ s.picture, 0 ≤ x ∧ x ≤ 1073741824) ∧ (s.picture ≠ [0, 0, 0] → 1 ≤ s.picture.sum) := by
 obtain ⟨h0, h1, h2, _⟩ := SS.staked_bd h
 have p0 := pic1_bd _ h0; have p1 := pic1_bd _ h1; have p2 := pic1_bd _ h2
 unfold SS.picture
 generalize pic1 (s.staked 0) = a at *
 generalize pic1 (s.staked 1) = b at *
 generalize pic1 (s.staked 2) = c at *
 refine ⟨rfl, fun x hx => ?_, fun hne => ?_⟩
 · simp at hx; rcases hx with rfl | rfl | rfl <;> assumption
 · simp only [List.sum_cons, List.sum_nil]
   by_cases ha : a = 0
   · by_cases hb : b = 0
     · by_cases hc : c = 0
       · exact absurd (by rw [ha, hb, hc]) hne
       · omega
     · omega
   · omega
theorem getD_mem {α : Type} (l : List α) (i : Nat) (d : α) (h : i < l.length) : l.getD i d ∈ l := by
 rw [List.getD_eq_getElem?_getD, List.getElem?_eq_getElem h]; exact List.getElem_mem h
theorem CS.end_inv {c : CS} (h : c.Inv) : c.endOp.Inv ∧ c.endOp.p.supply ≤ c.p.supply ∧ c.endOp.cycle = c.cycle + 1 ∧ c.endOp.level = c.level := by
 have hd : ∀ x ∈ c.k.due, ownB x.1 = true := fun x hx => (h.known x (List.mem_of_mem_drop hx)).1
 obtain ⟨a, b, d1, d2, d3, d4, d5⟩ := CS.judges_inv c.k.due h hd
 have e : c.judged = c.k.due.foldl CS.judge c := rfl
 have hbn : 0 ≤ bonusN c.judged.bonus c.judged.ratio ∧ bonusN c.judged.bonus c.judged.ratio ≤ 5000 := by
   unfold bonusN
   have := a.b0; have := a.b1
   rw [← e] at *
   repeat' split
   all_goals omega
 refine ⟨⟨a.p, a.s, a.reg, a.bal, ?_, Nat.le_refl _, hbn.1, hbn.2, ?_, ?_, by have := a.cy; show 0 ≤ c.judged.cycle + 1; rw [e]; omega, a.lv⟩, b, by show c.judged.cycle + 1 = _; rw [e, d2], d3⟩
 · exact h.known
 · show (c.judged.pics.drop 1 ++ [c.judged.newPic]).length = 3
   rw [e]; simp [a.three]
 · intro l hl
   have hl : l ∈ c.judged.pics.drop 1 ++ [c.judged.newPic] := hl
   rcases List.mem_append.1 hl with hl | hl
   · exact a.pic l (List.mem_of_mem_drop hl)
   · obtain rfl := List.mem_singleton.1 hl
     unfold CS.newPic
     rw [e]
     split
     · exact a.pic _ (getD_mem _ _ _ (by rw [a.three]; decide))
     · next hne => obtain ⟨q1, q2, q3⟩ := SS.picture_ok a.s; exact ⟨q1, q2, q3 hne⟩
theorem CS.step_inv {c : CS} (h : c.Inv) : c.stepOp.Inv ∧ c.stepOp.p.supply ≤ c.p.supply ∧ (c.stepOp.cycle = c.cycle → c.stepOp.p.supply = c.p.supply) ∧ c.stepOp.level = c.level + 1 ∧ c.stepOp.cycle ≤ c.cycle + 1 := by
 have hl : ({ c with level := c.level + 1 } : CS).Inv := ⟨h.p, h.s, h.reg, h.bal, h.known, h.done, h.b0, h.b1, h.three, h.pic, h.cy, by have := h.lv; show 0 ≤ c.level + 1; omega⟩
 unfold CS.stepOp
 split
 · obtain ⟨a, b, d1, d2⟩ := CS.end_inv hl
   exact ⟨a, b, fun hc => by rw [d1] at hc; simp only at hc; omega, d2, by rw [d1]; exact Int.le_refl _⟩
 · exact ⟨hl, Int.le_refl _, fun _ => rfl, rfl, by simp only; omega⟩
end Go.Proofs.YtajnfkmkombajaaGreatDoor
