/- The walk of (*draw.Draw).fill. -/
import Derived.Test.YtajnfkmkombajaaDoorDraw1
import Derived.Deep.LoopGhost
import Derived.Deep.DeepCutAuto
import Derived.Deep.CutBlock
set_option linter.unusedVariables false
set_option linter.unusedSimpArgs false
namespace Go.Proofs.YtajnfkmkombajaaDoor
open Go.RowKit

def natVs (l : List Nat) : List Value := l.map fun k : Nat => Value.int .i64 (k : Int)
theorem natVs_append (a b : List Nat) : natVs (a ++ b) = natVs a ++ natVs b := by simp [natVs]
def colVs (l : List (Int × Int)) : List Value := l.flatMap fun c => [.int .i64 c.1, .int .i64 c.2]
theorem colVs_length : ∀ l : List (Int × Int), (colVs l).length = 2 * l.length
  | [] => rfl
  | a :: l => by have := colVs_length l; simp only [colVs, List.flatMap_cons, List.length_append, List.length_cons, List.length_nil] at this ⊢; omega
theorem colVs_set : ∀ (l : List (Int × Int)) (k : Nat) (c : Int × Int), k < l.length → colVs (l.set k c) = ((colVs l).set (k * 2) (.int .i64 c.1)).set (k * 2 + 1) (.int .i64 c.2)
  | [], _, _, h => by simp at h
  | a :: l, 0, c, _ => rfl
  | a :: l, k + 1, c, h => by
    have ih := colVs_set l k c (by simpa using h)
    rw [show (k + 1) * 2 = k * 2 + 2 by omega]
    simp only [List.set_cons_succ, colVs, List.flatMap_cons] at ih ⊢
    rw [ih]
    rfl
theorem colVs_get : ∀ (l : List (Int × Int)) (k : Nat), k < l.length → (colVs l)[k * 2]? = some (.int .i64 (l.getD k (0, 0)).1) ∧ (colVs l)[k * 2 + 1]? = some (.int .i64 (l.getD k (0, 0)).2)
  | [], _, h => by simp at h
  | a :: l, 0, _ => ⟨rfl, rfl⟩
  | a :: l, k + 1, h => by
    have ih := colVs_get l k (by simpa using h)
    rw [show (k + 1) * 2 = k * 2 + 2 by omega]
    simpa [colVs] using ih

/-- while columns are filled -/
structure FillAt (W : World) (b cb rb : Nat) (n : Nat) (H : Int) (v5 v6 : Value) (s : VS) (w : World) : Prop where
  below : Below W.heap.size W w
  d : RowAt b 92 [.int .i64 H, .slice (some ⟨cb, 0, none⟩) n n] w
  c : RowAt cb 95 (colVs s.cols) w
  r : RowAt rb 3 (s.rest.map (Value.int .i64)) w
  s5 : OwnSl (rb + 1) 3 v5 (natVs s.small) w
  s6 : OwnSl (rb + 1) 3 v6 (natVs s.great) w
  dj : ∀ g, v5.ownBlock = some g → v6.ownBlock ≠ some g
  nb : W.heap.size ≤ b
  nc : W.heap.size ≤ cb
  bc : b ≠ cb
  br : b < rb
  cr : cb < rb
  cl : s.cols.length = n
  rl : s.rest.length = n

section
variable {W w w' : World} {b cb rb n : Nat} {H : Int} {v5 v6 : Value} {s : VS}
theorem FillAt.drewN (h : FillAt W b cb rb n H v5 v6 s w) (k : Nat) : FillAt W b cb rb n H v5 v6 s (w.drewN k) :=
  ⟨h.below.drewN k, h.d, h.c, h.r, h.s5.kept fun _ _ => rfl, h.s6.kept fun _ _ => rfl, h.dj, h.nb, h.nc, h.bc, h.br, h.cr, h.cl, h.rl⟩
theorem FillAt.far (h : FillAt W b cb rb n H v5 v6 s w) {g : Nat} (hg : v5.ownBlock = some g ∨ v6.ownBlock = some g) : rb < g ∧ g < w.heap.size := by
  rcases hg with hg | hg
  · have := h.s5.blk hg; omega
  · have := h.s6.blk hg; omega
theorem FillAt.setRest (h : FillAt W b cb rb n H v5 v6 s w) (k : Nat) (x : Int) : FillAt W b cb rb n H v5 v6 ⟨s.small, s.great, s.rest.set k x, s.cols⟩ (w.setCell ⟨rb, k, none⟩ (.int .i64 x)) := by
  have hbr := h.br; have hcr := h.cr
  refine ⟨h.below.setCell (by have := h.nb; simp only; omega) _, h.d.set_other (by simp only; omega) _, h.c.set_other (by simp only; omega) _, ?_, ?_, ?_, h.dj, h.nb, h.nc, h.bc, h.br, h.cr, h.cl, by simpa using h.rl⟩
  · have := h.r.set k (.int .i64 x)
    simp only
    rw [List.map_set]; exact this
  · exact h.s5.setCell_other (fun e => by have := h.far (.inl e); simp only at this; omega) _
  · exact h.s6.setCell_other (fun e => by have := h.far (.inr e); simp only at this; omega) _
theorem FillAt.setCol (h : FillAt W b cb rb n H v5 v6 s w) (k : Nat) (hk : k < n) (x y : Int) : FillAt W b cb rb n H v5 v6 ⟨s.small, s.great, s.rest, s.cols.set k (x, y)⟩ ((w.setCell ⟨cb, k * 2, none⟩ (.int .i64 x)).setCell ⟨cb, k * 2 + 1, none⟩ (.int .i64 y)) := by
  have hbr := h.br; have hcr := h.cr; have hbc := h.bc
  refine ⟨(h.below.setCell (by have := h.nc; simp only; omega) _).setCell (by have := h.nc; simp only; omega) _, (h.d.set_other (by simp only; omega) _).set_other (by simp only; omega) _, ?_, (h.r.set_other (by simp only; omega) _).set_other (by simp only; omega) _, ?_, ?_, h.dj, h.nb, h.nc, h.bc, h.br, h.cr, by simpa using h.cl, h.rl⟩
  · simp only
    rw [colVs_set _ _ _ (by rw [h.cl]; exact hk)]
    exact (h.c.set _ _).set _ _
  · exact (h.s5.setCell_other (fun e => by have := h.far (.inl e); simp only at this; omega) _).setCell_other (fun e => by have := h.far (.inl e); simp only at this; omega) _
  · exact (h.s6.setCell_other (fun e => by have := h.far (.inr e); simp only at this; omega) _).setCell_other (fun e => by have := h.far (.inr e); simp only at this; omega) _
theorem FillAt.alloc (h : FillAt W b cb rb n H v5 v6 s w) (o : Obj) : FillAt W b cb rb n H v5 v6 s (w.alloc o) :=
  ⟨h.below.alloc h.below.size o, h.d.alloc o, h.c.alloc o, h.r.alloc o, h.s5.alloc o, h.s6.alloc o, h.dj, h.nb, h.nc, h.bc, h.br, h.cr, h.cl, h.rl⟩
theorem row_grown {b : Nat} {T : TypeId} {vs : List Value} {row : Option Nat} (h : RowAt b T vs w) (hg : w.grownBy w' row) (hne : some b ≠ row) : RowAt b T vs w' := (hg.block b h.lt hne).trans h
/-- something was appended to the one slice -/
theorem FillAt.app5 (h : FillAt W b cb rb n H v5 v6 s w) {v' : Value} {sm : List Nat} (hg : w.grownBy w' v5.ownBlock) (h5 : OwnSl (rb + 1) 3 v' (natVs sm) w') (hw : v'.ownBlock = v5.ownBlock ∨ v'.ownBlock = some w.heap.size) :
    FillAt W b cb rb n H v' v6 ⟨sm, s.great, s.rest, s.cols⟩ w' := by
  have hbr := h.br; have hcr := h.cr
  have hne : ∀ k, k ≤ rb → some k ≠ v5.ownBlock := fun k hk e => by have := h.far (.inl e.symm); omega
  refine ⟨h.below.grown hg h.below.size (fun k hk => by have := h.far (.inl hk); have := h.nb; omega), row_grown h.d hg (hne b (by omega)), row_grown h.c hg (hne cb (by omega)), row_grown h.r hg (hne rb (by omega)), h5, h.s6.grown hg (fun g hv e => h.dj g e.symm hv), ?_, h.nb, h.nc, h.bc, h.br, h.cr, h.cl, h.rl⟩
  intro g hv hv6
  rcases hw with hw | hw
  · exact h.dj g (hw ▸ hv) hv6
  · rw [hw] at hv; cases hv; have := h.far (.inr hv6); omega
theorem FillAt.app6 (h : FillAt W b cb rb n H v5 v6 s w) {v' : Value} {gr : List Nat} (hg : w.grownBy w' v6.ownBlock) (h6 : OwnSl (rb + 1) 3 v' (natVs gr) w') (hw : v'.ownBlock = v6.ownBlock ∨ v'.ownBlock = some w.heap.size) :
    FillAt W b cb rb n H v5 v' ⟨s.small, gr, s.rest, s.cols⟩ w' := by
  have hbr := h.br; have hcr := h.cr
  have hne : ∀ k, k ≤ rb → some k ≠ v6.ownBlock := fun k hk e => by have := h.far (.inr e.symm); omega
  refine ⟨h.below.grown hg h.below.size (fun k hk => by have := h.far (.inr hk); have := h.nb; omega), row_grown h.d hg (hne b (by omega)), row_grown h.c hg (hne cb (by omega)), row_grown h.r hg (hne rb (by omega)), h.s5.grown hg (fun g hv e => h.dj g hv e.symm), h6, ?_, h.nb, h.nc, h.bc, h.br, h.cr, h.cl, h.rl⟩
  intro g hv hv6
  rcases hw with hw | hw
  · exact h.dj g hv (hw ▸ hv6)
  · rw [hw] at hv6; cases hv6; have := h.far (.inl hv); omega
theorem FillAt.re5 (h : FillAt W b cb rb n H v5 v6 s w) {v' : Value} {sm : List Nat} (h5 : OwnSl (rb + 1) 3 v' (natVs sm) w) (hw : v'.ownBlock = v5.ownBlock) : FillAt W b cb rb n H v' v6 ⟨sm, s.great, s.rest, s.cols⟩ w :=
  ⟨h.below, h.d, h.c, h.r, h5, h.s6, fun g hv => h.dj g (hw ▸ hv), h.nb, h.nc, h.bc, h.br, h.cr, h.cl, h.rl⟩
theorem FillAt.re6 (h : FillAt W b cb rb n H v5 v6 s w) {v' : Value} {gr : List Nat} (h6 : OwnSl (rb + 1) 3 v' (natVs gr) w) (hw : v'.ownBlock = v6.ownBlock) : FillAt W b cb rb n H v5 v' ⟨s.small, gr, s.rest, s.cols⟩ w :=
  ⟨h.below, h.d, h.c, h.r, h.s5, h6, fun g hv => hw ▸ h.dj g hv, h.nb, h.nc, h.bc, h.br, h.cr, h.cl, h.rl⟩
theorem FillAt.restCell (h : FillAt W b cb rb n H v5 v6 s w) {k : Nat} (hk : k < n) : w.cell? ⟨rb, k, none⟩ = some (.int .i64 (s.rest.getD k 0)) := by
  rw [h.r.cell, List.getElem?_map, List.getElem?_eq_getElem (by rw [h.rl]; exact hk)]
  simp [h.rl, hk]
theorem FillAt.high (h : FillAt W b cb rb n H v5 v6 s w) : w.cell? ⟨b, 0, none⟩ = some (.int .i64 H) := by rw [h.d.cell]; rfl
theorem FillAt.lcell (h : FillAt W b cb rb n H v5 v6 s w) : w.cell? ⟨b, 1, none⟩ = some (.slice (some ⟨cb, 0, none⟩) n n) := by rw [h.d.cell]; rfl
theorem FillAt.colCells (h : FillAt W b cb rb n H v5 v6 s w) {k : Nat} (hk : k < n) : w.cell? ⟨cb, k * 2, none⟩ = some (.int .i64 (s.cols.getD k (0, 0)).1) ∧ w.cell? ⟨cb, k * 2 + 1, none⟩ = some (.int .i64 (s.cols.getD k (0, 0)).2) := by
  rw [h.c.cell, h.c.cell]; exact colVs_get _ _ (by rw [h.cl]; exact hk)
end

/-- the first loop: what is left, and who has too little -/
def restTo (w : List Int) (k : Nat) : List Int := (restW w).take k ++ List.replicate (w.length - k) 0
def startTo (w : List Int) (k : Nat) : VS := ⟨smallTo w k, greatTo w k, restTo w k, List.replicate w.length (0, 0)⟩
theorem restTo_length (w : List Int) (k : Nat) (hk : k ≤ w.length) : (restTo w k).length = w.length := by simp [restTo, restW]; omega
theorem restTo_succ (w : List Int) (k : Nat) (hk : k < w.length) : (restTo w k).set k (w.getD k 0 * (w.length : Int)) = restTo w (k + 1) := by
  apply List.ext_getElem?
  intro i
  have hl : (restW w).length = w.length := by simp [restW]
  unfold restTo
  rw [List.getElem?_set]
  by_cases hi : k = i
  · subst hi
    rw [if_pos rfl, if_pos (by simp [hl]; omega)]
    rw [List.getElem?_append_left (by simp [hl]; omega), List.getElem?_take, if_pos (by omega)]
    have := restW_getD w k
    rw [List.getD_eq_getElem?_getD, List.getElem?_eq_getElem (by rw [hl]; exact hk)] at this
    rw [List.getElem?_eq_getElem (by rw [hl]; exact hk)]
    simp only [Option.getD_some] at this
    rw [this]
  · rw [if_neg hi]
    rcases Nat.lt_or_ge i k with h | h
    · rw [List.getElem?_append_left (by simp [hl]; omega), List.getElem?_append_left (by simp [hl]; omega), List.getElem?_take, List.getElem?_take, if_pos h, if_pos (by omega)]
    · rw [List.getElem?_append_right (by simp [hl]; omega), List.getElem?_append_right (by simp [hl]; omega), List.getElem?_replicate, List.getElem?_replicate]
      simp only [List.length_take, hl]
      by_cases hin : i < w.length
      · rw [if_pos (by omega), if_pos (by omega)]
      · rw [if_neg (by omega), if_neg (by omega)]
theorem restTo_all (w : List Int) : restTo w w.length = restW w := by
  unfold restTo
  rw [List.take_of_length_le (by simp [restW]), Nat.sub_self, List.replicate_zero, List.append_nil]
theorem restTo_zero (w : List Int) : restTo w 0 = List.replicate w.length 0 := by unfold restTo; simp
theorem startTo_all (w : List Int) : startTo w w.length = VS.start w := by unfold startTo VS.start; rw [restTo_all]
theorem smallTo_yes {w : List Int} {k : Nat} (h : w.getD k 0 * (w.length : Int) < w.sum) : smallTo w (k + 1) = smallTo w k ++ [k] ∧ greatTo w (k + 1) = greatTo w k := by
  unfold smallTo greatTo; rw [List.range_succ, List.filter_append, List.filter_append]
  rw [← restW_getD] at h
  have hd : decide ((restW w).getD k 0 < w.sum) = true := decide_eq_true h
  simp only [List.filter_cons, List.filter_nil, hd, Bool.not_true, if_true, List.append_nil, Bool.false_eq_true, if_false, and_self]
theorem smallTo_no {w : List Int} {k : Nat} (h : ¬ w.getD k 0 * (w.length : Int) < w.sum) : smallTo w (k + 1) = smallTo w k ∧ greatTo w (k + 1) = greatTo w k ++ [k] := by
  unfold smallTo greatTo; rw [List.range_succ, List.filter_append, List.filter_append]
  rw [← restW_getD] at h
  have hd : decide ((restW w).getD k 0 < w.sum) = false := decide_eq_false h
  simp only [List.filter_cons, List.filter_nil, hd, Bool.not_false, if_true, List.append_nil, Bool.false_eq_true, if_false, and_self]
end Go.Proofs.YtajnfkmkombajaaDoor
