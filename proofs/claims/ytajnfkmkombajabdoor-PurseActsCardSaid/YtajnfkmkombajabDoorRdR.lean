/- A slice of structs that came in: it reads as a list of plain data. (The first lemma is a block of the guide's page on structs, to be copied.) -/
import Derived.Test.YtajnfkmkombajabDoorKeep
import Derived.Deep.Slices
import Derived.Deep.Fields
import Derived.ChangeSame
import Derived.OpenShut
import Derived.Sort.WalkA
set_option linter.unusedVariables false
set_option linter.unusedSimpArgs false
namespace Go.Proofs.YtajnfkmkombajabDoor
open Go.RowKit Go.ChangeShapes Go.WideShapes Go.Deep

section
variable {H : Type} {enc : TypeId × Value → H} {P : Program} {w : World} {base : Nat} {spare : Nat → Bool} {held : Bool}
theorem open_slice_fields {t e : TypeId} {fs : Array Field} {fuel : Nat} {cs : List Value} {x : DataW H × List MemPlace} (ht : P.underlying t = some (.slice e)) (he : P.underlying e = some (.struct fs))
    (hone : oneCellFields P fs = true) (hC : P.cellsOf e = fs.size) (h : DataW.trod enc P w base spare held fuel t cs = some x) :
    (cs = [.slice none 0 0] ∧ x = (.nil, [])) ∨
    ∃ (a : Addr) (len cap m : Nat) (D : Nat → DataW H) (Pl : Nat → List MemPlace), cs = [.slice (some a) len cap] ∧ base ≤ a.block ∧ len ≤ cap ∧ cap ≤ maxLen ∧ m = (if spare a.block then cap else len) ∧
      x = (.slice ((List.range len).map D) ((List.range (m - len)).map fun j => D (len + j)), MemPlace.row a (m * fs.size) ++ (List.range m).flatMap Pl) ∧
      ∀ i, i < m → ∃ (ys : List (DataW H × List MemPlace)) (n : Nat), D i = .agg (ys.map (·.1)) ∧ Pl i = ys.flatMap (·.2) ∧ ys.length = fs.size ∧
        ∀ (j : Nat) (f : Field), fs[j]? = some f → ∃ (v : Value) (y : DataW H × List MemPlace), w.cell? (a.add (i * fs.size + j)) = some v ∧ ys[j]? = some y ∧ DataW.trod enc P w base spare held n f.type [v] = some y := by
  rcases open_slice ht h with h0 | ⟨a, len, cap, m, n, D, Pl, hcs, hb, hl, hm, hmm, hx, hi⟩
  · exact .inl h0
  · refine .inr ⟨a, len, cap, m, D, Pl, hcs, hb, hl, hm, hmm, by rw [hC] at hx; exact hx, fun i him => ?_⟩
    obtain ⟨cs', hc, ht'⟩ := hi i him
    rw [hC] at hc
    obtain ⟨ys, n', hn', hy, hlen, hyl, hf⟩ := DataW.trod_struct he ht'
    obtain ⟨_, hcl, hat⟩ := World.cells?_some hc
    simp only [Prod.mk.injEq] at hy
    refine ⟨ys, n', hy.1, hy.2, hyl, fun j f hj => ?_⟩
    obtain ⟨ho, hk⟩ := hone_of hone j f hj
    have hjl : j < fs.size := (Array.getElem?_eq_some_iff.1 hj).1
    have hcell := hat j hjl
    have hv : cs'[j]? = some (cs'[j]'(by omega)) := List.getElem?_eq_getElem (by omega)
    have h1 := hf j f hj
    rw [ho, hk] at h1
    have hone' : (cs'.drop j).take 1 = [cs'[j]'(by omega)] := by
      rw [List.drop_eq_getElem_cons (by omega)]
      rfl
    rw [hone'] at h1
    have hys : ys[j]? = some (ys[j]'(by omega)) := List.getElem?_eq_getElem (by omega)
    refine ⟨_, _, ?_, hys, h1.trans hys⟩
    rw [← Go.Deep.add_add, hcell, hv]
end

/-- the slice '.slice ao len cap' reads, in w, as the data l, each of C cells -/
structure RdR {α : Type} (enc : α → List Value) (C : Nat) (w : World) (ao : Option Addr) (len cap : Nat) (l : List α) : Prop where
  size : l.length = len
  lc : len ≤ cap
  cm : cap ≤ maxLen
  nul : ao = none → cap = 0
  cells : ∀ i x, l[i]? = some x → ∃ b off, ao = some ⟨b, off, none⟩ ∧ b < w.heap.size ∧ ∀ j, j < C → w.cell? ⟨b, off + i * C + j, none⟩ = (enc x)[j]?

section
variable {α : Type} {enc : α → List Value} {C : Nat} {w w' : World} {ao : Option Addr} {len cap : Nat} {l : List α}

theorem RdR.below (h : RdR enc C w ao len cap l) (hb : Below w.heap.size w w') : RdR enc C w' ao len cap l := by
  refine ⟨h.size, h.lc, h.cm, h.nul, fun i x hx => ?_⟩
  obtain ⟨b, off, ha, hl, hc⟩ := h.cells i x hx
  exact ⟨b, off, ha, Nat.lt_of_lt_of_le hl hb.size, fun j hj => by rw [hb.cell (p := ⟨b, _, none⟩) hl]; exact hc j hj⟩

theorem list_choose {α : Type} {Q : Nat → α → Prop} : ∀ n, (∀ i, i < n → ∃ x, Q i x) → ∃ l : List α, l.length = n ∧ ∀ i x, l[i]? = some x → Q i x
  | 0, _ => ⟨[], rfl, fun i x h => by simp at h⟩
  | n + 1, h => by
    obtain ⟨l, hl, hq⟩ := list_choose n (fun i hi => h i (by omega))
    obtain ⟨y, hy⟩ := h n (by omega)
    refine ⟨l ++ [y], by simp [hl], fun i x hx => ?_⟩
    rw [List.getElem?_append] at hx
    split at hx
    · exact hq i x hx
    · next hge =>
      have : i - l.length = 0 := by
        rcases Nat.eq_zero_or_pos (i - l.length) with h0 | h0
        · exact h0
        · rw [List.getElem?_eq_none (by simp; omega)] at hx; cases hx
      rw [this] at hx
      cases hx
      have : i = n := by omega
      subst this; exact hy

/-- out of the cells -/
theorem RdR.of_cells {a : Addr} {Q : α → Prop} (hC : 0 < C) (hl : len ≤ cap) (hm : cap ≤ maxLen)
    (h : ∀ i, i < len → ∃ x, (∀ j, j < C → w.cell? (a.add (i * C + j)) = (enc x)[j]?) ∧ C ≤ (enc x).length ∧ Q x) : ∃ l, RdR enc C w (some a) len cap l ∧ ∀ x ∈ l, Q x := by
  obtain ⟨l, hlen, hq⟩ := list_choose len h
  refine ⟨l, ⟨hlen, hl, hm, fun h => (by cases h), fun i x hx => ?_⟩, fun x hx => ?_⟩
  · obtain ⟨h1, h2, _⟩ := hq i x hx
    have h00 := h1 0 hC
    rw [List.getElem?_eq_getElem (show 0 < (enc x).length by omega)] at h00
    have hs : (a.add (i * C + 0)).spot = none := World.cell?_spot h00
    have hblk := World.block_lt_of_cell? w _ h00
    obtain ⟨b, off, spot⟩ := a
    have hs0 : spot = none := by
      by_cases h0 : i * C = 0
      · rw [h0] at hs; simpa [Addr.add] using hs
      · have hi0 : 0 < len := by have := (List.getElem?_eq_some_iff.1 hx).1; omega
        obtain ⟨x0, hx0⟩ : ∃ x0, l[0]? = some x0 := ⟨_, List.getElem?_eq_getElem (by omega)⟩
        obtain ⟨z1, z2, _⟩ := hq 0 x0 hx0
        have := z1 0 hC
        rw [List.getElem?_eq_getElem (show 0 < (enc x0).length by omega)] at this
        have h0c := World.cell?_spot this; simpa [Addr.add] using h0c
    subst hs0
    have e : ∀ j, (⟨b, off, none⟩ : Addr).add j = ⟨b, off + j, none⟩ := fun j => by unfold Addr.add; split <;> simp_all
    rw [e] at hblk
    exact ⟨b, off, rfl, hblk, fun j hj => by rw [← h1 j hj, e, Nat.add_assoc]⟩
  · obtain ⟨i, hi⟩ := List.getElem?_of_mem hx
    exact (hq i x hi).2.2
theorem RdR.nil (enc : α → List Value) (C : Nat) (w : World) : RdR enc C w none 0 0 [] := ⟨rfl, Nat.le_refl _, by decide, fun _ => rfl, fun i x h => by simp at h⟩
end
end Go.Proofs.YtajnfkmkombajabDoor
