/-
  The walk of (*draw.Draw).fill.
  The walk of (*draw.Draw).fill.
-/
import Derived.Test.YtajnfkmkombajabGreatDoorQSR17
import Derived.Deep.LoopGhost
import Derived.Deep.DeepCutAuto
import Derived.Deep.CutBlock
import Derived.Deep.OwnRows
set_option linter.unusedVariables false
set_option linter.unusedSimpArgs false
set_option linter.unusedVariables false
namespace Go.Proofs.YtajnfkmkombajabGreatDoor
open Go.RowKit

def natVs (l : List Nat) : List Value := l.map fun k : Nat => Value.int .i64 (k : Int)
theorem natVs_append (a b : List Nat) : natVs (a ++ b) = natVs a ++ natVs b := by simp [natVs]
def colVs (l : List (Int × Int)) : List Value := l.flatMap fun c => [.int .i64 c.1, .int .i64 c.2]
theorem colVs_length : ∀ l : List (Int × Int), (colVs l).length = 2 * l.length
  | [] => rfl
  | a :: l => by have := colVs_length l; simp only [colVs, List.flatMap_cons, List.length_append, List.length_cons, List.length_nil] at this ⊢; omega
theorem colVs_set : ∀ (l : List (Int × Int)) (k : Nat) (c : Int × Int), k < l.length → colVs (l.set k c) = ((colVs l).set (k * 2) (.int .i64 c.1)).set (k * 2 + 1) (.int .i64 c.2)
  | [], _, _, h => by simp at h
  | a :: l, 0, c, _ => rfl
  | a :: l, k + 1, c, h => by
    have ih := colVs_set l k c (by simpa using h)
    rw [show (k + 1) * 2 = k * 2 + 2 by omega]
    simp only [List.set_cons_succ, colVs, List.flatMap_cons] at ih ⊢
    rw [ih]
    rfl
theorem colVs_get : ∀ (l : List (Int × Int)) (k : Nat), k < l.length → (colVs l)[k * 2]? = some (.int .i64 (l.getD k (0, 0)).1) ∧ (colVs l)[k * 2 + 1]? = some (.int .i64 (l.getD k (0, 0)).2)
  | [], _, h => by simp at h
  | a :: l, 0, _ => ⟨rfl, rfl⟩
  | a :: l, k + 1, h => by
    have ih := colVs_get l k (by simpa using h)
    rw [show (k + 1) * 2 = k * 2 + 2 by omega]
    simpa [colVs] using ih

/-- while columns are filled -/
structure FillAt (W : World) (b cb rb : Nat) (n : Nat) (H : Int) (v5 v6 : Value) (s : VS) (w : World) : Prop where
  below : Below W.heap.size W w
  d : RowAt b 177 [.int .i64 H, .slice (some ⟨cb, 0, none⟩) n n] w
  c : RowAt cb 210 (colVs s.cols) w
  r : RowAt rb 3 (s.rest.map (Value.int .i64)) w
  s5 : OwnSl (rb + 1) 3 v5 (natVs s.small) w
  s6 : OwnSl (rb + 1) 3 v6 (natVs s.great) w
  dj : ∀ g, v5.ownBlock = some g → v6.ownBlock ≠ some g
  nb : W.heap.size ≤ b
  nc : W.heap.size ≤ cb
  bc : b ≠ cb
  br : b < rb
  cr : cb < rb
  cl : s.cols.length = n
  rl : s.rest.length = n

section
variable {W w w' : World} {b cb rb n : Nat} {H : Int} {v5 v6 : Value} {s : VS}
theorem FillAt.drewN (h : FillAt W b cb rb n H v5 v6 s w) (k : Nat) : FillAt W b cb rb n H v5 v6 s (w.drewN k) :=
  ⟨h.below.drewN k, h.d, h.c, h.r, h.s5.kept fun _ _ => rfl, h.s6.kept fun _ _ => rfl, h.dj, h.nb, h.nc, h.bc, h.br, h.cr, h.cl, h.rl⟩
theorem FillAt.far (h : FillAt W b cb rb n H v5 v6 s w) {g : Nat} (hg : v5.ownBlock = some g ∨ v6.ownBlock = some g) : rb < g ∧ g < w.heap.size := by
  rcases hg with hg | hg
  · have := h.s5.blk hg; omega
  · have := h.s6.blk hg; omega
theorem FillAt.setRest (h : FillAt W b cb rb n H v5 v6 s w) (k : Nat) (x : Int) : FillAt W b cb rb n H v5 v6 ⟨s.small, s.great, s.rest.set k x, s.cols⟩ (w.setCell ⟨rb, k, none⟩ (.int .i64 x)) := by
  have hbr := h.br; have hcr := h.cr
  refine ⟨h.below.setCell (by have := h.nb; simp only; omega) _, h.d.set_other (by simp only; omega) _, h.c.set_other (by simp only; omega) _, ?_, ?_, ?_, h.dj, h.nb, h.nc, h.bc, h.br, h.cr, h.cl, by simpa using h.rl⟩
  · have := h.r.set k (.int .i64 x)
    simp only
    rw [List.map_set]; exact this
  · exact h.s5.setCell_other (fun e => by have := h.far (.inl e); simp only at this; omega) _
  · exact h.s6.setCell_other (fun e => by have := h.far (.inr e); simp only at this; omega) _
theorem FillAt.setCol (h : FillAt W b cb rb n H v5 v6 s w) (k : Nat) (hk : k < n) (x y : Int) : FillAt W b cb rb n H v5 v6 ⟨s.small, s.great, s.rest, s.cols.set k (x, y)⟩ ((w.setCell ⟨cb, k * 2, none⟩ (.int .i64 x)).setCell ⟨cb, k * 2 + 1, none⟩ (.int .i64 y)) := by
  have hbr := h.br; have hcr := h.cr; have hbc := h.bc
  refine ⟨(h.below.setCell (by have := h.nc; simp only; omega) _).setCell (by have := h.nc; simp only; omega) _, (h.d.set_other (by simp only; omega) _).set_other (by simp only; omega) _, ?_, (h.r.set_other (by simp only; omega) _).set_other (by simp only; omega) _, ?_, ?_, h.dj, h.nb, h.nc, h.bc, h.br, h.cr, by simpa using h.cl, h.rl⟩
  · simp only
    rw [colVs_set _ _ _ (by rw [h.cl]; exact hk)]
    exact (h.c.set _ _).set _ _
  · exact (h.s5.setCell_other (fun e => by have := h.far (.inl e); simp only at this; omega) _).setCell_other (fun e => by have := h.far (.inl e); simp only at this; omega) _
  · exact (h.s6.setCell_other (fun e => by have := h.far (.inr e); simp only at this; omega) _).setCell_other (fun e => by have := h.far (.inr e); simp only at this; omega) _
theorem FillAt.alloc (h : FillAt W b cb rb n H v5 v6 s w) (o : Obj) : FillAt W b cb rb n H v5 v6 s (w.alloc o) :=
  ⟨h.below.alloc h.below.size o, h.d.alloc o, h.c.alloc o, h.r.alloc o, h.s5.alloc o, h.s6.alloc o, h.dj, h.nb, h.nc, h.bc, h.br, h.cr, h.cl, h.rl⟩
theorem row_grown {b : Nat} {T : TypeId} {vs : List Value} {row : Option Nat} (h : RowAt b T vs w) (hg : w.grownBy w' row) (hne : some b ≠ row) : RowAt b T vs w' := (hg.block b h.lt hne).trans h
/-- something was appended to the one slice -/
theorem FillAt.app5 (h : FillAt W b cb rb n H v5 v6 s w) {v' : Value} {sm : List Nat} (hg : w.grownBy w' v5.ownBlock) (h5 : OwnSl (rb + 1) 3 v' (natVs sm) w') (hw : v'.ownBlock = v5.ownBlock ∨ v'.ownBlock = some w.heap.size) :
    FillAt W b cb rb n H v' v6 ⟨sm, s.great, s.rest, s.cols⟩ w' := by
  have hbr := h.br; have hcr := h.cr
  have hne : ∀ k, k ≤ rb → some k ≠ v5.ownBlock := fun k hk e => by have := h.far (.inl e.symm); omega
  refine ⟨h.below.grown hg h.below.size (fun k hk => by have := h.far (.inl hk); have := h.nb; omega), row_grown h.d hg (hne b (by omega)), row_grown h.c hg (hne cb (by omega)), row_grown h.r hg (hne rb (by omega)), h5, h.s6.grown hg (fun g hv e => h.dj g e.symm hv), ?_, h.nb, h.nc, h.bc, h.br, h.cr, h.cl, h.rl⟩
  intro g hv hv6
  rcases hw with hw | hw
  · exact h.dj g (hw ▸ hv) hv6
  · rw [hw] at hv; cases hv; have := h.far (.inr hv6); omega
theorem FillAt.app6 (h : FillAt W b cb rb n H v5 v6 s w) {v' : Value} {gr : List Nat} (hg : w.grownBy w' v6.ownBlock) (h6 : OwnSl (rb + 1) 3 v' (natVs gr) w') (hw : v'.ownBlock = v6.ownBlock ∨ v'.ownBlock = some w.heap.size) :
    FillAt W b cb rb n H v5 v' ⟨s.small, gr, s.rest, s.cols⟩ w' := by
  have hbr := h.br; have hcr := h.cr
  have hne : ∀ k, k ≤ rb → some k ≠ v6.ownBlock := fun k hk e => by have := h.far (.inr e.symm); omega
  refine ⟨h.below.grown hg h.below.size (fun k hk => by have := h.far (.inr hk); have := h.nb; omega), row_grown h.d hg (hne b (by omega)), row_grown h.c hg (hne cb (by omega)), row_grown h.r hg (hne rb (by omega)), h.s5.grown hg (fun g hv e => h.dj g hv e.symm), h6, ?_, h.nb, h.nc, h.bc, h.br, h.cr, h.cl, h.rl⟩
  intro g hv hv6
  rcases hw with hw | hw
  · exact h.dj g hv (hw ▸ hv6)
  · rw [hw] at hv6; cases hv6; have := h.far (.inl hv); omega
theorem FillAt.re5 (h : FillAt W b cb rb n H v5 v6 s w) {v' : Value} {sm : List Nat} (h5 : OwnSl (rb + 1) 3 v' (natVs sm) w) (hw : v'.ownBlock = v5.ownBlock) : FillAt W b cb rb n H v' v6 ⟨sm, s.great, s.rest, s.cols⟩ w :=
  ⟨h.below, h.d, h.c, h.r, h5, h.s6, fun g hv => h.dj g (hw ▸ hv), h.nb, h.nc, h.bc, h.br, h.cr, h.cl, h.rl⟩
theorem FillAt.re6 (h : FillAt W b cb rb n H v5 v6 s w) {v' : Value} {gr : List Nat} (h6 : OwnSl (rb + 1) 3 v' (natVs gr) w) (hw : v'.ownBlock = v6.ownBlock) : FillAt W b cb rb n H v5 v' ⟨s.small, gr, s.rest, s.cols⟩ w :=
  ⟨h.below, h.d, h.c, h.r, h.s5, h6, fun g hv => hw ▸ h.dj g hv, h.nb, h.nc, h.bc, h.br, h.cr, h.cl, h.rl⟩
theorem FillAt.restCell (h : FillAt W b cb rb n H v5 v6 s w) {k : Nat} (hk : k < n) : w.cell? ⟨rb, k, none⟩ = some (.int .i64 (s.rest.getD k 0)) := by
  rw [h.r.cell, List.getElem?_map, List.getElem?_eq_getElem (by rw [h.rl]; exact hk)]
  simp [h.rl, hk]
theorem FillAt.high (h : FillAt W b cb rb n H v5 v6 s w) : w.cell? ⟨b, 0, none⟩ = some (.int .i64 H) := by rw [h.d.cell]; rfl
theorem FillAt.lcell (h : FillAt W b cb rb n H v5 v6 s w) : w.cell? ⟨b, 1, none⟩ = some (.slice (some ⟨cb, 0, none⟩) n n) := by rw [h.d.cell]; rfl
theorem FillAt.colCells (h : FillAt W b cb rb n H v5 v6 s w) {k : Nat} (hk : k < n) : w.cell? ⟨cb, k * 2, none⟩ = some (.int .i64 (s.cols.getD k (0, 0)).1) ∧ w.cell? ⟨cb, k * 2 + 1, none⟩ = some (.int .i64 (s.cols.getD k (0, 0)).2) := by
  rw [h.c.cell, h.c.cell]; exact colVs_get _ _ (by rw [h.cl]; exact hk)
end

/-- the first loop: what is left, and who has too little -/
def restTo (w : List Int) (k : Nat) : List Int := (restW w).take k ++ List.replicate (w.length - k) 0
def startTo (w : List Int) (k : Nat) : VS := ⟨smallTo w k, greatTo w k, restTo w k, List.replicate w.length (0, 0)⟩
theorem restTo_length (w : List Int) (k : Nat) (hk : k ≤ w.length) : (restTo w k).length = w.length := by simp [restTo, restW]; omega
theorem restTo_succ (w : List Int) (k : Nat) (hk : k < w.length) : (restTo w k).set k (w.getD k 0 * (w.length : Int)) = restTo w (k + 1) := by
  apply List.ext_getElem?
  intro i
  have hl : (restW w).length = w.length := by simp [restW]
  unfold restTo
  rw [List.getElem?_set]
  by_cases hi : k = i
  · subst hi
    rw [if_pos rfl, if_pos (by simp [hl]; omega)]
    rw [List.getElem?_append_left (by simp [hl]; omega), List.getElem?_take, if_pos (by omega)]
    have := restW_getD w k
    rw [List.getD_eq_getElem?_getD, List.getElem?_eq_getElem (by rw [hl]; exact hk)] at this
    rw [List.getElem?_eq_getElem (by rw [hl]; exact hk)]
    simp only [Option.getD_some] at this
    rw [this]
  · rw [if_neg hi]
    rcases Nat.lt_or_ge i k with h | h
    · rw [List.getElem?_append_left (by simp [hl]; omega), List.getElem?_append_left (by simp [hl]; omega), List.getElem?_take, List.getElem?_take, if_pos h, if_pos (by omega)]
    · rw [List.getElem?_append_right (by simp [hl]; omega), List.getElem?_append_right (by simp [hl]; omega), List.getElem?_replicate, List.getElem?_replicate]
      simp only [List.length_take, hl]
      by_cases hin : i < w.length
      · rw [if_pos (by omega), if_pos (by omega)]
      · rw [if_neg (by omega), if_neg (by omega)]
theorem restTo_all (w : List Int) : restTo w w.length = restW w := by
  unfold restTo
  rw [List.take_of_length_le (by simp [restW]), Nat.sub_self, List.replicate_zero, List.append_nil]
theorem restTo_zero (w : List Int) : restTo w 0 = List.replicate w.length 0 := by unfold restTo; simp
theorem startTo_all (w : List Int) : startTo w w.length = VS.start w := by unfold startTo VS.start; rw [restTo_all]
theorem smallTo_yes {w : List Int} {k : Nat} (h : w.getD k 0 * (w.length : Int) < w.sum) : smallTo w (k + 1) = smallTo w k ++ [k] ∧ greatTo w (k + 1) = greatTo w k := by
  unfold smallTo greatTo; rw [List.range_succ, List.filter_append, List.filter_append]
  rw [← restW_getD] at h
  have hd : decide ((restW w).getD k 0 < w.sum) = true := decide_eq_true h
  simp only [List.filter_cons, List.filter_nil, hd, Bool.not_true, if_true, List.append_nil, Bool.false_eq_true, if_false, and_self]
theorem smallTo_no {w : List Int} {k : Nat} (h : ¬ w.getD k 0 * (w.length : Int) < w.sum) : smallTo w (k + 1) = smallTo w k ∧ greatTo w (k + 1) = greatTo w k ++ [k] := by
  unfold smallTo greatTo; rw [List.range_succ, List.filter_append, List.filter_append]
  rw [← restW_getD] at h
  have hd : decide ((restW w).getD k 0 < w.sum) = false := decide_eq_false h
  simp only [List.filter_cons, List.filter_nil, hd, Bool.not_false, if_true, List.append_nil, Bool.false_eq_true, if_false, and_self]
end Go.Proofs.YtajnfkmkombajabGreatDoor
namespace Go.Proofs.YtajnfkmkombajabGreatDoor
open Go.RowKit

/-- so many noughts -/
def zeroVs (n : Nat) : List Value := (List.replicate n (0 : Int)).map (Value.int .i64)
theorem made_one (n : Nat) : madeCells #[Value.int .i64 0] n = (zeroVs n).toArray := by
  apply Array.ext
  · simp [zeroVs, size_madeCells]
  · intro i h1 h2
    simp [zeroVs, madeCells, Nat.mod_one]
theorem made_two (n : Nat) : madeCells #[Value.int .i64 0, Value.int .i64 0] n = (zeroVs n).toArray := by
  apply Array.ext
  · simp [zeroVs, size_madeCells]
  · intro i h1 h2
    have : i % 2 = 0 ∨ i % 2 = 1 := by omega
    rcases this with h | h <;> simp [zeroVs, madeCells, h]

theorem make_ints (n : Nat) (hn : n ≤ 1000000) (w : World) : (Instr.makeSlice 58 (.int .i64 (n : Int)) (.int .i64 (n : Int))).run Tryz.prog w = .ok (.slice (some ⟨w.heap.size, 0, none⟩) n n) (w.alloc (.cells (zeroVs n).toArray 3)) := by
  rw [← made_one]
  exact run_make_row' 58 3 (.int .i64 0) 8 Tryz.underlying58 (by kernel_rfl) rfl .i64 .i64 n (by omega) (by omega) w

theorem zeros_map (n : Nat) : zeroVs n = (List.replicate n (0 : Int)).map (Value.int .i64) := rfl

theorem elemInts : Tryz.prog.underlying 58 = some (.slice (Tryz.prog.elem 58)) := by kernel_rfl
theorem sizeInts (wx : World) : (sizeOf (Tryz.prog.elem 58)).run Tryz.prog wx = .ok 1 wx := by kernel_rfl

theorem smallTo_length (w : List Int) (k : Nat) : (smallTo w k).length ≤ k := by unfold smallTo; exact Nat.le_trans (List.length_filter_le _ _) (by simp)
theorem greatTo_length (w : List Int) (k : Nat) : (greatTo w k).length ≤ k := by unfold greatTo; exact Nat.le_trans (List.length_filter_le _ _) (by simp)
theorem hlen1 (m : Nat) (h : m ≤ 64) : m + 1 ≤ maxLen := by unfold maxLen; omega
theorem hlen2 (m : Nat) (h : m ≤ 64) : (m + 1) * 8 ≤ 140737488355328 := by omega
theorem FillAt.rLt {W w : World} {b cb rb n : Nat} {H : Int} {v5 v6 : Value} {s : VS} (h : FillAt W b cb rb n H v5 v6 s w) : rb + 1 ≤ w.heap.size := h.r.lt

/-- what fill is told, and leaves -/
def FillPost (W : World) (b cb n : Nat) (H : Int) (cols : List (Int × Int)) (e : Ending) (w' : World) : Prop :=
  e = .returned (.tuple #[]) ∧ Below W.heap.size W w' ∧ RowAt b 177 [.int .i64 H, .slice (some ⟨cb, 0, none⟩) n n] w' ∧ RowAt cb 210 (colVs cols) w'

set_option maxRecDepth 8000 in
set_option maxHeartbeats 2000000 in
theorem draw_fill (W : World) (ao : Option Addr) (cap : Nat) (zs : List Int) (b cb : Nat) (w : World) (R : RdI .i64 W ao zs.length cap zs) (hb : Below W.heap.size W w) (nb : W.heap.size ≤ b) (nc : W.heap.size ≤ cb) (bc : b ≠ cb)
    (hd : RowAt b 177 [.int .i64 zs.sum, .slice (some ⟨cb, 0, none⟩) zs.length zs.length] w) (hc : RowAt cb 210 (colVs (List.replicate zs.length (0, 0))) w)
    (h0 : 0 < zs.length) (h1 : zs.length ≤ 64) (hz : ∀ x ∈ zs, 0 ≤ x ∧ x ≤ 1073741824) (hs0 : 0 ≤ zs.sum) (hs1 : zs.sum ≤ 68719476736) :
    Calls Tryz.prog 131 #[.pointer (some ⟨b, 0, none⟩), .slice ao zs.length cap] w (FillPost W b cb zs.length zs.sum (vose zs)) := by
  obtain ⟨i0, hi, hz0, hz1, hz2⟩ := info_parts (show (Tryz.prog.info? 3).map (fun i => (i.zero, i.size, i.bytes)) = some (some (.int .i64 0), 1, 8) by kernel_rfl)
  have hmk := make_ints zs.length (by omega)
  obtain ⟨_, wb, off, ha, hwb, hcell⟩ := (R.split).resolve_left (by omega)
  subst ha
  have HR := Lib.hid R; clear R hcell
  have F0 : FillAt W b cb w.heap.size zs.length zs.sum (.slice none 0 0) (.slice none 0 0) (startTo zs 0) (w.alloc (.cells (zeroVs zs.length).toArray 3)) := by
    refine ⟨hb.alloc hb.size _, hd.alloc _, hc.alloc _, ?_, OwnSl.nil _ _ _, OwnSl.nil _ _ _, fun g h => (by cases h), nb, nc, bc, hd.lt, hc.lt, by simp [startTo], by simp [startTo, restTo_length]⟩
    have := RowAt.new w 3 (zeroVs zs.length)
    simpa [startTo, restTo_zero, zeros_map] using this
  have HF := Lib.hid F0; clear F0 hd hc
  have HZ := Lib.hid hz; clear hz
  generalize hH : zs.sum = H at *
  have HH := Lib.hid hH; clear hH
  generalize hn : zs.length = n at *
  have HN := Lib.hid hn; clear hn
  go_enter Tryz.func131, Tryz.ntmps131
  go_wp2_with fail
  go_loopg [18, 5, 6] n (fun g i v5 v6 wr => ∃ k : Nat, g + k = n ∧ i = .int .i64 k ∧ FillAt W b cb w.heap.size n H v5 v6 (startTo zs k) wr)
  case atStart => exact ⟨0, rfl, rfl, HF.out⟩
  case round =>
    clear HF hmk
    obtain ⟨k, hg, rfl, F⟩ := hrel
    have hG := Lib.hid hg; clear hg
    have HF := Lib.hid F; clear F
    by_cases hlt : k < n
    · have hzk : zs.getD k 0 ∈ zs := by rw [List.getD_eq_getElem?_getD, List.getElem?_eq_getElem (by rw [HN.out]; exact hlt)]; exact List.getElem_mem _
      have hzb := HZ.out _ hzk
      obtain ⟨wb', off', ha, hcz⟩ := (HR.out.below HF.out.below).cells k hlt
      cases ha
      have hrs := restTo_succ zs k (by rw [HN.out]; exact hlt)
      rw [HN.out] at hrs
      have hyes := smallTo_yes (w := zs) (k := k)
      have hno := smallTo_no (w := zs) (k := k)
      rw [HN.out, HH.out] at hyes hno
      generalize hzz : zs.getD k 0 = z at *
      have hm1 : z * (n : Int) ≤ 1073741824 * 64 := Int.mul_le_mul hzb.2 (by omega) (by omega) (by omega)
      have hm0 : 0 ≤ z * (n : Int) := Int.mul_nonneg hzb.1 (by omega)
      have c1 := HF.out.restCell hlt
      have fr := HF.out.r.frozen k
      have F1 := HF.out.setRest k (z * (n : Int))
      have c2 := F1.restCell hlt
      simp only [startTo] at c2
      rw [getD_set_same _ _ _ _ (by rw [restTo_length _ _ (by rw [HN.out]; omega), HN.out]; exact hlt)] at c2
      have c3 := F1.high
      simp only [startTo] at F1
      rw [hrs] at F1
      have HF1 := Lib.hid F1; clear F1 HF hzk hrs
      generalize (startTo zs k).rest.getD k 0 = old at *
      have Hyes := Lib.hid hyes; have Hno := Lib.hid hno
      clear hyes hno hzz
      have hk64 : k ≤ 64 := by omega
      by_cases hs : z * (n : Int) < H
      · obtain ⟨y1, y2⟩ := Hyes.out hs
        have Y1 := Lib.hid y1; have Y2 := Lib.hid y2
        clear y1 y2
        go_wp2_with fail
        go_quiet (fail)
        have FA := Lib.hid ((HF1.out.drewN nq).alloc (.cells #[.int .i64 (k : Int)] 3))
        go_wp2_with (at_builtin; refine wpList_append_sl _ rfl (.tmp 39) (.tmp 41) 58 rfl (w.heap.size + 1) 3 i0 (.int .i64 0) 8 Tryz.underlying58 hi hz0 hz1 hz2 rfl u5 (natVs (smallTo zs k)) rfl FA.out.s5 ⟨_, 0, none⟩ (.int .i64 k) rfl (cell_one_at _ _ _ _ (by simp)) (ints_oneCell _ [_]) (hlen1 _ (by simp [natVs]; exact Nat.le_trans (smallTo_length zs k) hk64)) (hlen2 _ (by simp [natVs]; exact Nat.le_trans (smallTo_length zs k) hk64)) (by have := FA.out.rLt; simpa using this) ?_)
        intro v' w2 h5 hg hw
        have F2 := FA.out.app5 (v' := v') (w' := w2) (sm := smallTo zs k ++ [k]) hg (by rw [natVs_append]; exact h5) (by simpa using hw)
        have HF2 := Lib.hid F2; clear F2 h5 hg hw
        go_wp2_with fail
        have hg := hG.out
        go_roundg (n - (k + 1))
        case measure => omega
        case rel => exact ⟨k + 1, by omega, by go_num, by unfold startTo; rw [Y1.out, Y2.out]; exact HF2.out⟩
      · obtain ⟨y1, y2⟩ := Hno.out hs
        have Y1 := Lib.hid y1; have Y2 := Lib.hid y2
        clear y1 y2
        go_wp2_with fail
        go_quiet (fail)
        have FA := Lib.hid ((HF1.out.drewN nq).alloc (.cells #[.int .i64 (k : Int)] 3))
        go_wp2_with (at_builtin; refine wpList_append_sl _ rfl (.tmp 43) (.tmp 45) 58 rfl (w.heap.size + 1) 3 i0 (.int .i64 0) 8 Tryz.underlying58 hi hz0 hz1 hz2 rfl u6 (natVs (greatTo zs k)) rfl FA.out.s6 ⟨_, 0, none⟩ (.int .i64 k) rfl (cell_one_at _ _ _ _ (by simp)) (ints_oneCell _ [_]) (hlen1 _ (by simp [natVs]; exact Nat.le_trans (greatTo_length zs k) hk64)) (hlen2 _ (by simp [natVs]; exact Nat.le_trans (greatTo_length zs k) hk64)) (by have := FA.out.rLt; simpa using this) ?_)
        intro v' w2 h5 hg hw
        have F2 := FA.out.app6 (v' := v') (w' := w2) (gr := greatTo zs k ++ [k]) hg (by rw [natVs_append]; exact h5) (by simpa using hw)
        have HF2 := Lib.hid F2; clear F2 h5 hg hw
        go_wp2_with fail
        have hg := hG.out
        go_roundg (n - (k + 1))
        case measure => omega
        case rel => exact ⟨k + 1, by omega, by go_num, by unfold startTo; rw [Y1.out, Y2.out]; exact HF2.out⟩
    · have hg := hG.out
      obtain rfl : k = n := by omega
      clear hg hG
      have FZ := HF.out
      rw [show startTo zs k = VS.start zs by rw [← HN.out]; exact startTo_all zs] at FZ
      have HS := Lib.hid FZ; clear FZ HF
      have I0 := Lib.hid (VS.start_inv zs (fun x hx => (HZ.out x hx).1))
      go_upto_block 2 with fail
      go_cut [5, 6] (fun s5 s6 wx => FillAt W b cb w.heap.size k H s5 s6 (voseV zs) wx)
      case first =>
        go_wp2_with fail
        go_loopg [5, 6] k (fun g v5 v6 w2 => ∃ j : Nat, g + j = k ∧ FillAt W b cb w.heap.size k H v5 v6 ((VS.start zs).run H j) w2)
        case atStart => exact ⟨0, rfl, HS.out⟩
        case round =>
          clear HS
          obtain ⟨j, hg, F⟩ := hrel
          have hG := Lib.hid hg; clear hg
          have I := VS.run_inv I0.out j
          rw [HH.out] at I
          have HI := Lib.hid I; clear I
          obtain ⟨st, hst⟩ : ∃ st, st = (VS.start zs).run H j := ⟨_, rfl⟩
          rw [← hst] at F HI
          have HST := Lib.hid hst; clear hst
          have hk64 : k ≤ 64 := h1
          obtain ⟨small, great, rest, cols⟩ := st
          cases small with
          | nil =>
            obtain ⟨ao5, cap5, hv5, _, _⟩ := F.s5.shape
            obtain ⟨ao6, cap6, hv6, _, _⟩ := F.s6.shape
            simp only [natVs, List.map_nil, List.length_nil] at hv5
            subst hv5
            subst hv6
            have hend : voseV zs = ⟨[], great, rest, cols⟩ := by
              have := VS.run_stays (v := VS.start zs) (H := H) (k := j) (.inl (by rw [← HST.out])) (k - j)
              rw [show j + (k - j) = k by have := hG.out; omega, ← HST.out] at this
              unfold voseV; rw [HH.out, HN.out]; exact this
            have HE := Lib.hid hend; have HF := Lib.hid F; clear hend F
            go_wp2_with fail
            all_goals go_meet
            all_goals (case rel => rw [HE.out]; exact HF.out)
          | cons s sm =>
            cases great with
            | nil =>
              obtain ⟨ao5, cap5, hv5, _, _⟩ := F.s5.shape
              obtain ⟨ao6, cap6, hv6, _, _⟩ := F.s6.shape
              simp only [natVs, List.map_nil, List.length_nil] at hv6
              subst hv5
              subst hv6
              have hend : voseV zs = ⟨s :: sm, [], rest, cols⟩ := by
                have := VS.run_stays (v := VS.start zs) (H := H) (k := j) (.inr (by rw [← HST.out])) (k - j)
                rw [show j + (k - j) = k by have := hG.out; omega, ← HST.out] at this
                unfold voseV; rw [HH.out, HN.out]; exact this
              have HE := Lib.hid hend; have HF := Lib.hid F; clear hend F
              have hl5 : 0 < (natVs (s :: sm)).length := by simp [natVs]
              generalize (natVs (s :: sm)).length = l5 at *
              go_wp2_with fail
              all_goals go_meet
              all_goals (case rel => rw [HE.out]; exact HF.out)
            | cons g gr =>
              obtain ⟨g5, off5, cap5, hv5, _, _, hp5, hm5, hc5⟩ := F.s5.cells (by simp [natVs])
              obtain ⟨g6, off6, cap6, hv6, _, _, hp6, hm6, hc6⟩ := F.s6.cells (by simp [natVs])
              rw [show (natVs (s :: sm)).length = sm.length + 1 from by simp [natVs]] at hv5 hp5
              rw [show (natVs (g :: gr)).length = gr.length + 1 from by simp [natVs]] at hv6 hp6
              have e5 := hc5 0 (by simp [natVs])
              have e6 := hc6 0 (by simp [natVs])
              simp only [natVs, List.map_cons, List.getElem?_cons_zero, Nat.add_zero] at e5 e6
              have hsI := HI.out.sm s (by simp)
              have hgI := HI.out.gr g (by simp)
              have hgU := HI.out.rest_le (by rw [HH.out]; exact hs0) (g := g) (by simp)
              have hsl := HI.out.lt s (by simp)
              have hgl := HI.out.lt g (by simp)
              rw [HH.out] at hsI hgI hgU
              rw [HN.out] at hsl hgl hgU
              have hku : H * (k : Int) ≤ 68719476736 * 64 := Int.mul_le_mul hs1 (by omega) (by omega) (by omega)
              simp only at hsI hgI hgU
              have hfew := HI.out.few
              rw [HN.out] at hfew
              simp only [List.length_cons] at hfew
              subst hv5
              subst hv6
              obtain ⟨v5', ht5, ho5, ⟨ao5, cp5, hv5'⟩, hw5⟩ := F.s5.tail elemInts sizeInts .i64
              obtain ⟨v6', ht6, ho6, ⟨ao6, cp6, hv6'⟩, hw6⟩ := F.s6.tail elemInts sizeInts .i64
              simp only [List.length_map] at hv5' hv6'
              subst hv5'
              subst hv6'
              have F1 := F.re5 (ho5 _ F.s5) hw5
              have HF := Lib.hid F
              have HF1 := Lib.hid F1
              have HO6 := Lib.hid ho6; have HW6 := Lib.hid hw6
              clear F F1 ho5 ho6 hw5 hw6 hc5 hc6 hp5 hp6 hm5 hm6
              generalize hrs : rest.getD s 0 = rs at *
              generalize hrg : rest.getD g 0 = rg at *
              have HRS := Lib.hid hrs; have HRG := Lib.hid hrg
              clear hrs hrg
              go_wp2_with fail
              go_quiet (fail)
              go_upto_region 13 with fail
              go_cut [] (fun wx => FillAt W b cb w.heap.size k H (.slice ao5 sm.length cp5) (.slice (some ⟨g6, off6, none⟩) (gr.length + 1) cap6) ⟨sm, g :: gr, rest, cols.set s (rs, (g : Int))⟩ wx)
              case first =>
                have FQ := HF1.out
                have q1 := FQ.lcell
                have q2 := FQ.restCell hsl
                simp only [HRS.out] at q2
                obtain ⟨q3, q4⟩ := FQ.colCells hsl
                have q5 := FQ.c.frozen (s * 2)
                have q6 := FQ.c.frozen (s * 2 + 1)
                have F2 := Lib.hid ((FQ.drewN nq).setCol s hsl rs (g : Int))
                clear FQ HF HF1
                go_region
                go_wp2_with fail
                go_meet
                case rel => exact F2.out.drewN 1
              case rest =>
                clear HF HF1 e5 e6
                have HF := Lib.hid hcut; clear hcut
                go_upto_region 14 with fail
                go_cut [] (fun wx => FillAt W b cb w.heap.size k H (.slice ao5 sm.length cp5) (.slice (some ⟨g6, off6, none⟩) (gr.length + 1) cap6) ⟨sm, g :: gr, rest.set g (rg - (H - rs)), cols.set s (rs, (g : Int))⟩ wx)
                case first =>
                  have q1 := HF.out.high
                  have q2 := HF.out.restCell hsl
                  have q3 := HF.out.restCell hgl
                  simp only [HRS.out, HRG.out] at q2 q3
                  have q5 := HF.out.r.frozen g
                  have F2 := Lib.hid (HF.out.setRest g (rg - (H - rs)))
                  clear HF
                  go_region
                  go_wp2_with fail
                  go_meet
                  case rel => exact F2.out.drewN 1
                case rest =>
                  clear HF
                  have HF := Lib.hid hcut; clear hcut
                  have hstep : (VS.start zs).run H (j + 1) = if rg - (H - rs) < H then ⟨sm ++ [g], gr, rest.set g (rg - (H - rs)), cols.set s (rs, (g : Int))⟩ else ⟨sm, g :: gr, rest.set g (rg - (H - rs)), cols.set s (rs, (g : Int))⟩ := by
                    show ((VS.start zs).run H j).step H = _
                    rw [← HST.out]
                    unfold VS.step
                    simp only [HRS.out, HRG.out]
                  have HSt := Lib.hid hstep; clear hstep
                  have hj : j < k := by
                    rcases Nat.lt_or_ge j k with h | h
                    · exact h
                    · exfalso
                      have hjk : j = k := by have := hG.out; omega
                      have he := VS.run_end (v := VS.start zs) (H := H) (n := k) (by have := I0.out.few; rw [HN.out] at this; exact this)
                      rw [← hjk, ← HST.out] at he
                      simp at he
                  have q1 := HF.out.high
                  have q2 := HF.out.restCell hgl
                  rw [getD_set_same _ _ _ _ (by have := HF.out.rl; simpa using (show g < rest.length by simp at this; omega))] at q2
                  generalize hrn : rg - (H - rs) = rn at *
                  by_cases hlt2 : rn < H
                  · go_wp2_with fail
                    go_quiet (fail)
                    go_upto_region 16 with fail
                    go_region_law ((refine step_append_sl rfl (.tmp 102) (.tmp 104) 58 rfl (w.heap.size + 1) 3 i0 (.int .i64 0) 8 Tryz.underlying58 hi hz0 hz1 hz2 rfl (.slice ao5 sm.length cp5) (natVs sm) rfl ((HF.out.drewN _).alloc _).s5 ⟨_, 0, none⟩ (.int .i64 g) rfl (cell_one_at _ _ _ _ (by simp)) (ints_oneCell _ [_]) (hlen1 _ (by simp [natVs]; omega)) (hlen2 _ (by simp [natVs]; omega)) (by have := HF.out.rLt; simp; omega) ?_; intro v' w2 h5 hg hw))
                    have F2 := (((HF.out.drewN (nq + 1)).alloc (.cells #[.int .i64 (g : Int)] 3)).app5 (v' := v') (w' := w2) (sm := sm ++ [g]) hg (by rw [natVs_append]; exact h5) (by simpa using hw))
                    have F3 := Lib.hid (F2.re6 (HO6.out _ F2.s6) HW6.out)
                    clear F2 h5 hg hw
                    go_wp2_with fail
                    have hg := hG.out
                    go_roundg (k - (j + 1))
                    case measure => omega
                    case rel => exact ⟨j + 1, by omega, by rw [HSt.out, if_pos (by omega)]; exact F3.out⟩
                  · go_wp2_with fail
                    go_quiet (fail)
                    go_wp2_with fail
                    have hg := hG.out
                    go_roundg (k - (j + 1))
                    case measure => omega
                    case rel => exact ⟨j + 1, by omega, by rw [HSt.out, if_neg (by omega)]; exact HF.out.drewN _⟩
      case rest =>
        clear HS
        have I := VS.run_inv I0.out zs.length
        rw [show (VS.start zs).run zs.sum zs.length = voseV zs from rfl] at I
        have HFin : Hid (vose zs = ownCols H (voseV zs).cols ((voseV zs).small ++ (voseV zs).great)) := by
          show vose zs = _
          unfold vose VS.final; rw [HH.out]
        generalize hst : voseV zs = st at *
        clear hst
        have HI := Lib.hid I; clear I
        have F := hcut
        obtain ⟨ao5, cap5, hv5, _, _⟩ := F.s5.shape
        obtain ⟨ao6, cap6, hv6, _, _⟩ := F.s6.shape
        have n5 : natVs st.small = (st.small.map fun k : Nat => (k : Int)).map (Value.int .i64) := by simp [natVs]
        have n6 : natVs st.great = (st.great.map fun k : Nat => (k : Int)).map (Value.int .i64) := by simp [natVs]
        subst hv5
        subst hv6
        have r5 := F.s5
        have r6 := F.s6
        rw [n5] at r5
        rw [n6] at r6
        have R5 := Lib.hid (RdI.of_sl r5)
        have R6 := Lib.hid (RdI.of_sl r6)
        rw [show (natVs st.small).length = (st.small.map fun k : Nat => (k : Int)).length from by simp [natVs], show (natVs st.great).length = (st.great.map fun k : Nat => (k : Int)).length from by simp [natVs]] at *
        have hfew := HI.out.few
        rw [HN.out] at hfew
        have hcl := F.cl
        have hdd := F.d; have hcc := F.c; have hbb := F.below; have hcr := F.cr; have hbr := F.br; have hrl := F.rLt
        have HD := Lib.hid hdd; have HC := Lib.hid hcc; have HB := Lib.hid hbb
        clear hcut F r5 r6 n5 n6 hdd hcc hbb
        generalize hxs : (st.small.map fun k : Nat => (k : Int)) = xs at *
        generalize hys : (st.great.map fun k : Nat => (k : Int)) = ys at *
        have hlx : xs.length = st.small.length := by rw [← hxs]; simp
        have hly : ys.length = st.great.length := by rw [← hys]; simp
        have HX := Lib.hid hxs; have HY := Lib.hid hys
        have hxy : xs.length + ys.length ≤ 1000 := by omega
        clear hxs hys
        have Hlx := Lib.hid hlx; have Hly := Lib.hid hly
        clear hlx hly
        go_wp2_with fail
        refine (slices_Concat wc.heap.size ao5 ao6 cap5 cap6 xs ys _ (R5.out.below ((Below.refl _ _).alloc (Nat.le_refl _) _)) (R6.out.below ((Below.refl _ _).alloc (Nat.le_refl _) _)) (by simp) (by simp) hxy).mono ?_
        rintro e w1 ⟨ao, cp, rfl, ho, hb1⟩
        have hk1 : Keep (· = cb) wc w1 := ((Keep.refl _ _).alloc _).trans (Keep.of_below hb1)
        have D1 := HD.out.keep hk1 bc
        have C1 := HC.out.below (Below.trans ((Below.refl wc.heap.size wc).alloc (Nat.le_refl _) _) (hb1.mono (by simp))) (by omega)
        have B1 : Below W.heap.size W w1 := btrans (HB.out.alloc HB.out.size _) hb1
        have RL := RdI.of_own ho
        have hg1 := own_cells ho
        have HD1 := Lib.hid D1; have HC1 := Lib.hid C1; have HB1 := Lib.hid B1; have HRL := Lib.hid RL; have HG1 := Lib.hid hg1
        have hz1w := hb1.size
        simp only [World.size_alloc] at hz1w
        have HO := Lib.hid ho
        clear D1 C1 B1 RL hg1 ho hb1 hk1 R5 R6 HD HC HB
        go_wp2_with fail
        go_loopg [111] (xs.length + ys.length) (fun g i wr => ∃ q : Nat, g + q = xs.length + ys.length ∧ i = .int .i64 q ∧ Keep (· = cb) w1 wr ∧ RowAt cb 210 (colVs (ownCols H st.cols ((st.small ++ st.great).take q))) wr)
        case atStart => exact ⟨0, rfl, rfl, Keep.refl _ _, HC1.out⟩
        case round =>
          obtain ⟨q, hg, rfl, hkp, hrow⟩ := hrel
          have hG := Lib.hid hg; clear hg
          have hLL : (st.small ++ st.great).length = xs.length + ys.length := by rw [List.length_append, Hlx.out, Hly.out]
          have HLL := Lib.hid hLL; clear hLL
          have D2 := HD1.out.keep hkp bc
          have q1 : wr.cell? ⟨b, 0, none⟩ = some (.int .i64 H) := by rw [D2.cell]; rfl
          have q2 : wr.cell? ⟨b, 1, none⟩ = some (.slice (some ⟨cb, 0, none⟩) k k) := by rw [D2.cell]; rfl
          by_cases hq : q < xs.length + ys.length
          · obtain ⟨kq, hkq⟩ : ∃ kq, (st.small ++ st.great)[q]? = some kq := ⟨_, List.getElem?_eq_getElem (by rw [HLL.out]; exact hq)⟩
            have hkn := HI.out.lt kq (List.mem_of_getElem? hkq)
            rw [HN.out] at hkn
            obtain ⟨gl, hgl⟩ := HG1.out
            obtain ⟨hao, hbg, hgs, _, hcg⟩ := hgl (by omega)
            have hcl2 := hcg q hq
            rw [List.getElem?_map, ← HX.out, ← HY.out, ← List.map_append, List.getElem?_map, hkq] at hcl2
            simp only [Option.map_some, World.size_alloc] at hcl2 hbg
            rw [← hkp.cell (p := ⟨gl, q, none⟩) hgs (by simp only; omega)] at hcl2
            have hao' := Lib.hid hao; clear hao
            have := hao'.out; subst this
            have hcols : (ownCols H st.cols ((st.small ++ st.great).take q)).length = k := by rw [ownCols_length, hcl]
            obtain ⟨q3, q4⟩ := colVs_get (ownCols H st.cols ((st.small ++ st.great).take q)) kq (by rw [hcols]; exact hkn)
            rw [← hrow.cell] at q3 q4
            have q5 := hrow.frozen (kq * 2)
            have q6 := hrow.frozen (kq * 2 + 1)
            have hnew : RowAt cb 210 (colVs (ownCols H st.cols ((st.small ++ st.great).take (q + 1)))) ((wr.setCell ⟨cb, kq * 2, none⟩ (.int .i64 H)).setCell ⟨cb, kq * 2 + 1, none⟩ (.int .i64 (kq : Int))) := by
              have e : ownCols H st.cols ((st.small ++ st.great).take (q + 1)) = (ownCols H st.cols ((st.small ++ st.great).take q)).set kq (H, (kq : Int)) := by
                rw [List.take_add_one, hkq]; unfold ownCols; rw [Option.toList_some, List.foldl_append]; rfl
              rw [e, colVs_set _ _ _ (by rw [hcols]; exact hkn)]
              exact (hrow.set _ _).set _ _
            have HNew := Lib.hid hnew
            have HK := Lib.hid hkp
            clear hnew hkp hrow D2 hkq hcg hgl hcols
            generalize ((ownCols H st.cols ((st.small ++ st.great).take q)).getD kq (0, 0)).1 = old1 at *
            generalize ((ownCols H st.cols ((st.small ++ st.great).take q)).getD kq (0, 0)).2 = old2 at *
            go_wp2_with fail
            go_region
            go_wp2_with fail
            have hg := hG.out
            go_roundg (xs.length + ys.length - (q + 1))
            case measure => omega
            case rel => exact ⟨q + 1, by omega, by go_num, ((HK.out.put _).put _).drew, HNew.out.drewN 1⟩
          · have hall : (st.small ++ st.great).take q = st.small ++ st.great := List.take_of_length_le (by rw [HLL.out]; omega)
            rw [hall, ← HFin.out] at hrow
            have hfin : FillPost W b cb k H (vose zs) (.returned (.tuple #[])) wr := ⟨rfl, Keep.after HB1.out hkp (fun i hi => by omega), D2, hrow⟩
            have HFN := Lib.hid hfin
            clear hall hrow hfin D2 hkp
            go_wp2_with fail
            go_end0
            exact HFN.out
end Go.Proofs.YtajnfkmkombajabGreatDoor
