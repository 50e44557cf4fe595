/- Plain: what waits, done one by one in whatever order: what is turned so far, and the sums so far. No program in sight. -/
import Derived.Test.YtajnfkmkombajacDoorPlStakeSum
set_option linter.unusedVariables false
set_option linter.unusedSimpArgs false
namespace Go.Proofs.YtajnfkmkombajacDoor
open Go.RowKit

def SS.partF (s : SS) (done : Int → Int → Bool) (f : WP → WP) : SS := ⟨s.P, s.W.map fun x => if done x.b x.c then f x else x⟩
def SS.sumF (s : SS) (done : Int → Int → Bool) (g : WP → Int) : Int := (s.W.map fun x => if done x.b x.c then g x else 0).sum
def SS.anyF (s : SS) (done : Int → Int → Bool) (p : WP → Bool) : Bool := s.W.any fun x => done x.b x.c && p x
def addD (done : Int → Int → Bool) (k c : Int) : Int → Int → Bool := fun b x => done b x || (b == k && x == c)
theorem addD_same (done : Int → Int → Bool) (k c : Int) : addD done k c k c = true := by simp [addD]
theorem addD_other {done : Int → Int → Bool} {k c b x : Int} (h : ¬ (b = k ∧ x = c)) : addD done k c b x = done b x := by
  unfold addD
  cases hd : done b x with
  | true => rfl
  | false =>
    simp only [Bool.false_or, Bool.and_eq_false_iff, beq_eq_false_iff_ne]
    by_cases e : b = k
    · exact .inr fun e' => h ⟨e, e'⟩
    · exact .inl e

section
variable {s : SS} {done : Int → Int → Bool} {f : WP → WP} {g : WP → Int} {p : WP → Bool}

theorem keepsKey {f : WP → WP} (hf : ∀ x, (f x).b = x.b ∧ (f x).c = x.c) (done : Int → Int → Bool) (x : WP) : ((fun x : WP => if done x.b x.c then f x else x) x).b = x.b ∧ ((fun x : WP => if done x.b x.c then f x else x) x).c = x.c := by
  simp only; split
  · exact hf x
  · exact ⟨rfl, rfl⟩
theorem SS.partF_none (h : ∀ x ∈ s.W, done x.b x.c = false) : s.partF done f = s := by
  unfold SS.partF
  rw [List.map_congr_left (g := id) (fun x hx => by rw [h x hx]; rfl)]; simp
theorem SS.sumF_none (h : ∀ x ∈ s.W, done x.b x.c = false) : s.sumF done g = 0 := by
  unfold SS.sumF
  rw [List.map_congr_left (g := fun _ => (0 : Int)) (fun x hx => by rw [h x hx]; rfl)]
  induction s.W with
  | nil => rfl
  | cons a r ih => simpa using ih
theorem SS.anyF_none (h : ∀ x ∈ s.W, done x.b x.c = false) : s.anyF done p = false := by
  unfold SS.anyF
  rw [List.any_eq_false]
  intro x hx; rw [h x hx]; simp
theorem SS.partF_all (h : ∀ x ∈ s.W, done x.b x.c = true) : s.partF done f = ⟨s.P, s.W.map f⟩ := by
  unfold SS.partF
  rw [List.map_congr_left (g := f) (fun x hx => by rw [h x hx]; rfl)]
theorem SS.sumF_all (h : ∀ x ∈ s.W, done x.b x.c = true) : s.sumF done g = (s.W.map g).sum := by
  unfold SS.sumF
  rw [List.map_congr_left (g := g) (fun x hx => by rw [h x hx]; rfl)]
theorem SS.anyF_all (h : ∀ x ∈ s.W, done x.b x.c = true) : s.anyF done p = s.W.any p := by
  unfold SS.anyF
  rw [Bool.eq_iff_iff, List.any_eq_true, List.any_eq_true]
  constructor
  · rintro ⟨x, hx, h2⟩; exact ⟨x, hx, by rw [h x hx] at h2; simpa using h2⟩
  · rintro ⟨x, hx, h2⟩; exact ⟨x, hx, by rw [h x hx]; simpa using h2⟩

theorem SS.find_partF (hf : ∀ x, (f x).b = x.b ∧ (f x).c = x.c) (k c : Int) : (s.partF done f).find k c = (s.find k c).map fun q => if done k c then (f ⟨k, c, q⟩).q else q := by
  unfold SS.partF SS.find
  simp only
  rw [find_map_same (keepsKey hf done)]
  cases hx : s.W.find? (·.at k c) with
  | none => rfl
  | some x =>
    obtain ⟨rfl, rfl⟩ := WP.at_iff.1 (List.find?_some (p := fun z : WP => z.at k c) hx)
    simp only [Option.map_some]
    split <;> rfl
theorem SS.get_partF_none (k : Nat) : (s.partF done f).get k none = s.get k none := rfl
theorem SS.is_partF (k : Int) : (s.partF done f).is k = s.is k := rfl
theorem SS.Ok.partF (h : s.Ok) (hf : ∀ x, (f x).b = x.b ∧ (f x).c = x.c) (hq : ∀ x, x.q.Ok → (f x).q.Ok) : (s.partF done f).Ok :=
  h.mapW (keepsKey hf done) (fun x hx => by split; exact hq x hx; exact hx)
theorem SS.partF_len : (s.partF done f).W.length = s.W.length := by simp [SS.partF]

/-- what is the state's own word for one more that is done -/
theorem SS.partF_get (hf : ∀ x, (f x).b = x.b ∧ (f x).c = x.c) {k : Nat} {c : Int} {q : QS} (hq : s.find k c = some q) : ∀ (j : Nat) (oc : Option Int), j < 3 →
    (j = k ∧ oc = some c → (s.partF (addD done k c) f).get j oc = some (f ⟨k, c, q⟩).q) ∧ (¬ (j = k ∧ oc = some c) → (s.partF (addD done k c) f).get j oc = (s.partF done f).get j oc) := by
  intro j oc hj
  refine ⟨?_, fun hne => ?_⟩
  · rintro ⟨rfl, rfl⟩
    show (s.partF (addD done j c) f).find j c = _
    rw [SS.find_partF hf, hq, addD_same]; rfl
  · cases oc with
    | none => rfl
    | some c' =>
      show (s.partF (addD done k c) f).find j c' = (s.partF done f).find j c'
      rw [SS.find_partF hf, SS.find_partF hf, addD_other]
      rintro ⟨e, rfl⟩
      exact hne ⟨by omega, rfl⟩
theorem SS.partF_got (hf : ∀ x, (f x).b = x.b ∧ (f x).c = x.c) {k : Nat} {c : Int} {q : QS} (hq : s.find k c = some q) (hd : done k c = false) : (s.partF done f).get k (some c) = some q := by
  show (s.partF done f).find k c = some q
  rw [SS.find_partF hf, hq, hd]; rfl

theorem sumL_add : ∀ (l : List WP) (k c : Int) (q : QS), (l.Pairwise fun x y => ¬ (x.b = y.b ∧ x.c = y.c)) → ⟨k, c, q⟩ ∈ l → done k c = false →
    (l.map fun x => if addD done k c x.b x.c then g x else 0).sum = (l.map fun x => if done x.b x.c then g x else 0).sum + g ⟨k, c, q⟩
  | [], _, _, _, _, h, _ => by cases h
  | x :: r, k, c, q, hp, h, hd => by
    obtain ⟨p1, p2⟩ := List.pairwise_cons.1 hp
    simp only [List.map_cons, List.sum_cons]
    rcases List.mem_cons.1 h with e | e
    · subst e
      have e2 : (r.map fun x => if addD done k c x.b x.c then g x else 0) = r.map fun x => if done x.b x.c then g x else 0 :=
        List.map_congr_left (fun y hy => by rw [addD_other]; rintro ⟨a, b⟩; exact p1 y hy ⟨a.symm, b.symm⟩)
      rw [e2]; simp only [addD_same, hd, if_true, Bool.false_eq_true, if_false]; omega
    · have e1 : addD done k c x.b x.c = done x.b x.c := addD_other (fun hat => p1 _ e ⟨hat.1, hat.2⟩)
      rw [sumL_add r k c q p2 e hd, e1]; omega
theorem SS.sumF_add (h : s.Ok) {k c : Int} {q : QS} (hq : s.find k c = some q) (hd : done k c = false) : s.sumF (addD done k c) g = s.sumF done g + g ⟨k, c, q⟩ :=
  sumL_add s.W k c q h.apart (SS.find_some hq) hd
theorem SS.anyF_add (h : s.Ok) {k c : Int} {q : QS} (hq : s.find k c = some q) : s.anyF (addD done k c) p = (s.anyF done p || p ⟨k, c, q⟩) := by
  unfold SS.anyF
  rw [Bool.eq_iff_iff]
  simp only [List.any_eq_true, Bool.and_eq_true, Bool.or_eq_true]
  have hm := SS.find_some hq
  constructor
  · rintro ⟨x, hx, h1, h2⟩
    by_cases e : x.b = k ∧ x.c = c
    · right
      obtain ⟨rfl, rfl⟩ := e
      have := SS.find_mem h.apart hx
      rw [hq] at this; cases this
      exact h2
    · rw [addD_other e] at h1
      exact .inl ⟨x, hx, h1, h2⟩
  · rintro (⟨x, hx, h1, h2⟩ | h2)
    · exact ⟨x, hx, by unfold addD; rw [h1]; rfl, h2⟩
    · exact ⟨_, hm, addD_same _ _ _, h2⟩
theorem SS.sumF_bd (h : s.Ok) (hg : ∀ x, x.q.Ok → 0 ≤ g x ∧ g x ≤ 1125899906842624) : 0 ≤ s.sumF done g ∧ s.sumF done g ≤ 1125899906842624 * (s.W.length : Int) := by
  unfold SS.sumF
  have : ∀ l : List WP, (∀ x ∈ l, x.q.Ok) → 0 ≤ (l.map fun x => if done x.b x.c then g x else 0).sum ∧ (l.map fun x => if done x.b x.c then g x else 0).sum ≤ 1125899906842624 * (l.length : Int) := by
    intro l hl
    induction l with
    | nil => simp
    | cons a r ih =>
      have h1 := ih (fun x hx => hl x (by simp [hx]))
      have h2 := hg a (hl a (by simp))
      simp only [List.map_cons, List.sum_cons, List.length_cons]
      split <;> omega
  exact this s.W (fun x hx => (h.waits x hx).1)
end

theorem SS.freeOp_of {s : SS} {o c : Int} (h1 : cycleC c = 0) (h2 : ownB o = true) : s.freeOp o c = if s.W.any (·.has o c) then ((s.W.map (·.gets o c)).sum, 0, ⟨s.P, s.W.map (·.left o c)⟩) else (0, 4, ⟨s.P, s.W.map (·.left o c)⟩) := by
  unfold SS.freeOp; rw [if_neg]; rintro (h | h)
  · exact h h1
  · rw [h2] at h; cases h
/-- nothing may be had of it yet -/
theorem WP.stuck {x : WP} {o c : Int} (h : x.free c = false) : x.left o c = x ∧ x.gets o c = 0 ∧ x.has o c = false := by
  unfold WP.left WP.gets WP.has; rw [h]; simp
theorem WP.goes {k c' : Int} {q : QS} {o c : Int} (h : (WP.mk k c' q).free c = true) : ((WP.mk k c' q).left o c).q = (q.leaveOp o).2.2 ∧ (WP.mk k c' q).gets o c = (if (q.leaveOp o).2.1 = 0 then (q.leaveOp o).1 else 0) ∧ (WP.mk k c' q).has o c = ((q.leaveOp o).2.1 == 0) := by
  unfold WP.left WP.gets WP.has; rw [h]; simp
theorem WP.gets_bd (o c : Int) (x : WP) (h : x.q.Ok) : 0 ≤ x.gets o c ∧ x.gets o c ≤ 1125899906842624 := by
  have := QS.leave_pos h o
  unfold WP.gets
  split
  · split <;> omega
  · omega
theorem WP.loses_bd (k f p : Int) (x : WP) (h : x.q.Ok) : 0 ≤ x.loses k f p ∧ x.loses k f p ≤ 1125899906842624 := by
  obtain ⟨_, h1, _⟩ := QS.slash_total h p
  unfold WP.loses
  split <;> omega
end Go.Proofs.YtajnfkmkombajacDoor
