/- Plain: the document's columns are those of package draw, at each step. No program in sight. -/
import Derived.Test.YtajnfkmkombajabDoorPlDraw
set_option linter.unusedVariables false
set_option linter.unusedSimpArgs false
namespace Go.Proofs.YtajnfkmkombajabDoor
open Go.RowKit

theorem list_ext_getD {α : Type} (d : α) {a b : List α} (hl : a.length = b.length) (h : ∀ k, k < a.length → a.getD k d = b.getD k d) : a = b := by
  apply List.ext_getElem hl
  intro i h1 h2
  have := h i h1
  simpa [List.getD_eq_getElem?_getD, h1, h2] using this

theorem VS.final_start (w : List Int) : (VS.start w).final w.sum = (List.range w.length).map fun k : Nat => (w.sum, (k : Int)) := by
  apply list_ext_getD (0, 0)
  · simp [VS.final, ownCols_length, VS.start]
  · intro k hk
    have hk' : k < w.length := by simpa [VS.final, ownCols_length, VS.start] using hk
    have hm := (mem_start w k).2 hk'
    unfold VS.final
    rw [ownCols_getD _ _ _ _ (by simpa [VS.start] using hk'), if_pos hm]
    simp [List.getD_eq_getElem?_getD, hk']

theorem VS.final_length {w : List Int} {v : VS} (I : v.Inv w) : (v.final w.sum).length = w.length := by
  unfold VS.final; rw [ownCols_length, I.cl]

theorem VS.final_step {w : List Int} {v : VS} (I : v.Inv w) {s g : Nat} {sm gr : List Nat} (hs : v.small = s :: sm) (hg : v.great = g :: gr) : (v.step w.sum).final w.sum = (v.final w.sum).set s (v.rest.getD s 0, (g : Int)) := by
  have I' := I.step
  have hnd := I.nodup
  rw [hs, hg] at hnd
  have hsn : s < w.length := I.lt s (by rw [hs]; simp)
  have hs1 : s ∉ sm ++ g :: gr := by simpa using (List.nodup_cons.1 hnd).1
  have hcols : (v.step w.sum).cols = v.cols.set s (v.rest.getD s 0, (g : Int)) := by
    unfold VS.step; rw [hs, hg]; simp only; split <;> rfl
  have hmem : ∀ k, k ∈ (v.step w.sum).small ++ (v.step w.sum).great ↔ k ∈ sm ++ g :: gr := by
    intro k; unfold VS.step; rw [hs, hg]; simp only; split
    · simp only [List.mem_append, List.mem_cons, List.mem_nil_iff, or_false]
      constructor
      · rintro ((h | h) | h)
        · exact .inl h
        · exact .inr (.inl h)
        · exact .inr (.inr h)
      · rintro (h | h | h)
        · exact .inl (.inl h)
        · exact .inl (.inr h)
        · exact .inr h
    · exact Iff.rfl
  apply list_ext_getD (0, 0)
  · rw [VS.final_length I', List.length_set, VS.final_length I]
  · intro k hk
    rw [VS.final_length I'] at hk
    unfold VS.final
    rw [ownCols_getD _ _ _ _ (by rw [I'.cl]; exact hk), hcols]
    by_cases hks : s = k
    · subst hks
      rw [if_neg (fun h => hs1 ((hmem s).1 h)), getD_set_same _ _ _ _ (by rw [I.cl]; exact hk), getD_set_same _ _ _ _ (by rw [ownCols_length, I.cl]; exact hk)]
    · rw [getD_set_other _ _ _ _ _ hks, getD_set_other _ _ _ _ _ hks, ownCols_getD _ _ _ _ (by rw [I.cl]; exact hk)]
      have e : (k ∈ (v.step w.sum).small ++ (v.step w.sum).great) ↔ (k ∈ v.small ++ v.great) := by
        rw [hmem, hs, hg]; simp only [List.cons_append, List.mem_cons]; exact ⟨fun h => .inr h, fun h => h.resolve_left (fun e => hks e.symm)⟩
      by_cases hk2 : k ∈ v.small ++ v.great
      · rw [if_pos (e.2 hk2), if_pos hk2]
      · rw [if_neg (fun h => hk2 (e.1 h)), if_neg hk2]
end Go.Proofs.YtajnfkmkombajabDoor
