/- Plain: bends. No program in sight. -/
import Derived.Test.YtajnfkmkombajabDoorBase
set_option linter.unusedVariables false
set_option linter.unusedSimpArgs false
namespace Go.Proofs.YtajnfkmkombajabDoor
open Go.RowKit

/-- The slice value reads, in w, as these points. -/
structure RdP (w : World) (ao : Option Addr) (len cap : Nat) (l : List (Int × Int)) : Prop where
  size : l.length = len
  lc : len ≤ cap
  cm : cap ≤ maxLen
  nul : ao = none → cap = 0
  wf : ∀ p ∈ l, (-9223372036854775808 ≤ p.1 ∧ p.1 ≤ 9223372036854775807) ∧ (-9223372036854775808 ≤ p.2 ∧ p.2 ≤ 9223372036854775807)
  cells : ∀ i, i < len → ∃ b off, ao = some ⟨b, off, none⟩ ∧ w.cell? ⟨b, off + i * 2, none⟩ = some (.int .i64 (l.getD i (0, 0)).1) ∧ w.cell? ⟨b, off + i * 2 + 1, none⟩ = some (.int .i64 (l.getD i (0, 0)).2)

theorem RdP.split {w : World} {ao : Option Addr} {len cap : Nat} {l : List (Int × Int)} (h : RdP w ao len cap l) :
    (len = 0 ∧ l = []) ∨ (0 < len ∧ ∃ b off, ao = some ⟨b, off, none⟩ ∧ b < w.heap.size ∧ ∀ i, i < len → w.cell? ⟨b, off + i * 2, none⟩ = some (.int .i64 (l.getD i (0, 0)).1) ∧ w.cell? ⟨b, off + i * 2 + 1, none⟩ = some (.int .i64 (l.getD i (0, 0)).2)) := by
  rcases Nat.eq_zero_or_pos len with h0 | h0
  · exact .inl ⟨h0, List.eq_nil_of_length_eq_zero (by rw [h.size, h0])⟩
  · obtain ⟨b, off, ha, hc, _⟩ := h.cells 0 h0
    refine .inr ⟨h0, b, off, ha, World.block_lt_of_cell? w _ hc, fun i hi => ?_⟩
    obtain ⟨b', off', ha', hc'⟩ := h.cells i hi
    rw [ha] at ha'; cases ha'; exact hc'

theorem RdP.below {w w' : World} {ao : Option Addr} {len cap : Nat} {l : List (Int × Int)} (h : RdP w ao len cap l) (hb : Below w.heap.size w w') : RdP w' ao len cap l := by
  refine ⟨h.size, h.lc, h.cm, h.nul, h.wf, fun i hi => ?_⟩
  obtain ⟨b, off, ha, hc, hd⟩ := h.cells i hi
  exact ⟨b, off, ha, by rw [hb.cell (p := ⟨b, off + i * 2, none⟩) (World.block_lt_of_cell? w _ hc)]; exact hc, by rw [hb.cell (p := ⟨b, off + i * 2 + 1, none⟩) (World.block_lt_of_cell? w _ hd)]; exact hd⟩

/-- is it no number of a point? -/
def ptBad (p : Int × Int) : Prop := p.1 < 0 ∨ 1000000 < p.1 ∨ p.2 < 0 ∨ 1000000 < p.2
instance (p : Int × Int) : Decidable (ptBad p) := by unfold ptBad; infer_instance

/-- an error's number, and its place (-1: bare), of the points from place i on -/
def chk : Nat → Option Int → List (Int × Int) → Nat × Int
  | _, _, [] => (0, -1)
  | i, none, p :: r => if ptBad p then (2, i) else chk (i + 1) (some p.1) r
  | i, some x, p :: r => if ptBad p then (2, i) else if p.1 ≤ x then (3, i) else chk (i + 1) (some p.1) r

/-- .. of a whole bend -/
def checkF (l : List (Int × Int)) : Nat × Int := if l.length < 2 ∨ 8 < l.length then (3, -1) else chk 0 none l

/-- a right bend from a point on, at x -/
def bendGo : List (Int × Int) → Int → Int
  | [], _ => 0
  | [p], _ => p.2
  | p :: q :: r, x => if x < q.1 then p.2 + (q.2 - p.2) * (x - p.1) / (q.1 - p.1) else bendGo (q :: r) x

/-- a right bend at x -/
def bendV (l : List (Int × Int)) (x : Int) : Int := if x < (l.getD 0 (0, 0)).1 then (l.getD 0 (0, 0)).2 else bendGo l x
/-- an error's number and place of a bend at x; and its value -/
def bendF (l : List (Int × Int)) (x : Int) : Nat × Int := if (checkF l).1 ≠ 0 then checkF l else if x < 0 ∨ 1000000 < x then (2, -1) else (0, -1)

/-- what is right of a bend -/
structure BendOk (l : List (Int × Int)) : Prop where
  two : 2 ≤ l.length
  eight : l.length ≤ 8
  good : ∀ i, i < l.length → ¬ ptBad (l.getD i (0, 0))
  rise : ∀ i, i + 1 < l.length → (l.getD i (0, 0)).1 < (l.getD (i + 1) (0, 0)).1

theorem chk_ok : ∀ (r : List (Int × Int)) (i : Nat) (o : Option Int), (chk i o r).1 = 0 → (∀ j, j < r.length → ¬ ptBad (r.getD j (0, 0))) ∧ (∀ j, j + 1 < r.length → (r.getD j (0, 0)).1 < (r.getD (j + 1) (0, 0)).1) ∧ ∀ x, o = some x → 0 < r.length → x < (r.getD 0 (0, 0)).1
  | [], _, _, _ => ⟨fun j h => by simp at h, fun j h => by simp at h, fun x _ h => by simp at h⟩
  | p :: r, i, o, h => by
    have key : ¬ ptBad p ∧ (chk (i + 1) (some p.1) r).1 = 0 ∧ ∀ x, o = some x → x < p.1 := by
      cases o with
      | none =>
        simp only [chk] at h
        split at h
        · cases h
        · rename_i hb; exact ⟨hb, h, fun x hx => by cases hx⟩
      | some x =>
        simp only [chk] at h
        split at h
        · cases h
        · rename_i hb
          split at h
          · cases h
          · rename_i hx; exact ⟨hb, h, fun y hy => by cases hy; omega⟩
    obtain ⟨k1, k2, k3⟩ := key
    obtain ⟨a, b, c⟩ := chk_ok r (i + 1) (some p.1) k2
    refine ⟨fun j hj => ?_, fun j hj => ?_, fun x hx _ => by simpa using k3 x hx⟩
    · cases j with
      | zero => simpa using k1
      | succ j => simpa using a j (by simpa using hj)
    · cases j with
      | zero => simpa using c p.1 rfl (by simpa using hj)
      | succ j => simpa using b j (by simpa using hj)

theorem check_ok {l : List (Int × Int)} (h : (checkF l).1 = 0) : BendOk l := by
  unfold checkF at h
  split at h
  · cases h
  · rename_i hn
    obtain ⟨a, b, _⟩ := chk_ok l 0 none h
    exact ⟨by omega, by omega, a, b⟩
/-- the X ahead of place k -/
def prevX (l : List (Int × Int)) (k : Nat) : Option Int := if k = 0 then none else some (l.getD (k - 1) (0, 0)).1
theorem drop_get {l : List (Int × Int)} {k : Nat} (h : k < l.length) : l.drop k = l.getD k (0, 0) :: l.drop (k + 1) := by
  rw [List.drop_eq_getElem_cons h]; simp [List.getD_eq_getElem?_getD, List.getElem?_eq_getElem h]
theorem chk_bad {l : List (Int × Int)} {k : Nat} (h : k < l.length) (hb : ptBad (l.getD k (0, 0))) : chk k (prevX l k) (l.drop k) = (2, (k : Int)) := by
  rw [drop_get h]; unfold prevX; split <;> simp only [chk, if_pos hb]
theorem chk_shape {l : List (Int × Int)} {k : Nat} (h : k < l.length) (hb : ¬ ptBad (l.getD k (0, 0))) (hk : 0 < k) (hx : (l.getD k (0, 0)).1 ≤ (l.getD (k - 1) (0, 0)).1) : chk k (prevX l k) (l.drop k) = (3, (k : Int)) := by
  rw [drop_get h]; unfold prevX; rw [if_neg (by omega)]; simp only [chk, if_neg hb, if_pos hx]
theorem chk_next {l : List (Int × Int)} {k : Nat} (h : k < l.length) (hb : ¬ ptBad (l.getD k (0, 0))) (hx : k = 0 ∨ (l.getD (k - 1) (0, 0)).1 < (l.getD k (0, 0)).1) : chk k (prevX l k) (l.drop k) = chk (k + 1) (prevX l (k + 1)) (l.drop (k + 1)) := by
  rw [drop_get h]
  have e : prevX l (k + 1) = some (l.getD k (0, 0)).1 := by unfold prevX; rw [if_neg (by omega)]; rfl
  rw [e]
  unfold prevX
  split
  · simp only [chk, if_neg hb]
  · rename_i h0
    have : ¬ (l.getD k (0, 0)).1 ≤ (l.getD (k - 1) (0, 0)).1 := by rcases hx with h | h <;> omega
    simp only [chk, if_neg hb, if_neg this]
theorem chk_done {l : List (Int × Int)} {k : Nat} (h : l.length ≤ k) : chk k (prevX l k) (l.drop k) = (0, -1) := by
  rw [List.drop_eq_nil_of_le h]; unfold prevX; split <;> rfl
theorem checkF_in {l : List (Int × Int)} (h : ¬ (l.length < 2 ∨ 8 < l.length)) : checkF l = chk 0 (prevX l 0) (l.drop 0) := by
  unfold checkF; rw [if_neg h]; rfl
theorem checkF_out {l : List (Int × Int)} (h : l.length < 2 ∨ 8 < l.length) : checkF l = (3, -1) := by
  unfold checkF; rw [if_pos h]
theorem ptBad_cases {x y : Int} : x < 0 ∨ (0 ≤ x ∧ 1000000 < x) ∨ (0 ≤ x ∧ x ≤ 1000000 ∧ y < 0) ∨ (0 ≤ x ∧ x ≤ 1000000 ∧ 0 ≤ y ∧ 1000000 < y) ∨ (0 ≤ x ∧ x ≤ 1000000 ∧ 0 ≤ y ∧ y ≤ 1000000) := by omega
theorem chk_zero : ∀ (r : List (Int × Int)) (i : Nat) (o : Option Int), (chk i o r).1 = 0 → chk i o r = (0, -1)
  | [], _, _, _ => rfl
  | p :: r, i, none, h => by
    simp only [chk] at h ⊢
    split at h
    · cases h
    · rename_i hb; rw [if_neg hb]; exact chk_zero r _ _ h
  | p :: r, i, some x, h => by
    simp only [chk] at h ⊢
    split at h
    · cases h
    · rename_i hb
      rw [if_neg hb]
      split at h
      · cases h
      · rename_i hx; rw [if_neg hx]; exact chk_zero r _ _ h
theorem checkF_zero {l : List (Int × Int)} (h : (checkF l).1 = 0) : checkF l = (0, -1) := by
  unfold checkF at h ⊢
  split at h
  · cases h
  · rename_i hn; rw [if_neg hn]; exact chk_zero _ _ _ h

theorem bendGo_step {l : List (Int × Int)} {k : Nat} {x : Int} (h : k + 1 < l.length) (hx : ¬ x < (l.getD (k + 1) (0, 0)).1) : bendGo (l.drop k) x = bendGo (l.drop (k + 1)) x := by
  rw [drop_get (by omega : k < l.length), drop_get h]
  simp only [bendGo, if_neg hx]
theorem bendGo_here {l : List (Int × Int)} {k : Nat} {x : Int} (h : k + 1 < l.length) (hx : x < (l.getD (k + 1) (0, 0)).1) :
    bendGo (l.drop k) x = (l.getD k (0, 0)).2 + ((l.getD (k + 1) (0, 0)).2 - (l.getD k (0, 0)).2) * (x - (l.getD k (0, 0)).1) / ((l.getD (k + 1) (0, 0)).1 - (l.getD k (0, 0)).1) := by
  rw [drop_get (by omega : k < l.length), drop_get h]
  simp only [bendGo, if_pos hx]
theorem bendGo_last {l : List (Int × Int)} {k : Nat} {x : Int} (h : k + 1 = l.length) : bendGo (l.drop k) x = (l.getD k (0, 0)).2 := by
  rw [drop_get (by omega : k < l.length), List.drop_eq_nil_of_le (by omega)]
  rfl
theorem bend_mul {p q : Int × Int} {x : Int} (hp : ¬ ptBad p) (hq : ¬ ptBad q) (h0 : 0 ≤ x) (h1 : x ≤ 1000000) :
    -1000000000000 ≤ (q.2 - p.2) * (x - p.1) ∧ (q.2 - p.2) * (x - p.1) ≤ 1000000000000 := by
  unfold ptBad at hp hq
  have h : ((q.2 - p.2) * (x - p.1)).natAbs ≤ 1000000 * 1000000 := by
    rw [Int.natAbs_mul]; exact Nat.mul_le_mul (by omega) (by omega)
  omega
end Go.Proofs.YtajnfkmkombajabDoor
