/-
  Contracts of what package draw calls of package slices: IndexFunc (at draw.New's test), Grow (of nil), Concat (of two).
  The walk of (*draw.Draw).fill.
-/
import Derived.Test.YtajnfkmkombajacDoorProg
import Derived.Test.YtajnfkmkombajacDoorQCL15
import Derived.Lib.AppendZeros
import Derived.Deep.QuietTactic
import Derived.BigQuiet
import Derived.Outline
import Derived.KernelRfl
import Derived.Deep.LoopGhost
import Derived.Deep.DeepCutAuto
import Derived.Deep.CutBlock
set_option linter.unusedVariables false
set_option linter.unusedSimpArgs false
namespace Go.Proofs.YtajnfkmkombajacDoor
open Go.RowKit

/-- a weight that may not be -/
def badW (n : Int) : Bool := decide (n < 0) || decide (1073741824 < n)

theorem draw_bad (n : Int) (w : World) : Calls Tryd.prog 79 #[.int .i64 n] w fun e w' => e = .returned (.bool (badW n)) ∧ w = w' := by
  by_cases h : n < 0
  · have H := Lib.hid (show badW n = true by simp [badW, h])
    go_enter Tryd.func79, Tryd.ntmps79
    go_wp2
    go_ret
    exact ⟨by rw [H.out]; rfl, rfl⟩
  · have h0 : 0 ≤ n := by omega
    clear h
    go_enter Tryd.func79, Tryd.ntmps79
    go_wp2
    go_ret
    exact ⟨rfl, rfl⟩

/-- the first weight that may not be; -1: none -/
def firstBad (zs : List Int) : Int := if zs.findIdx badW < zs.length then (zs.findIdx badW : Int) else -1

theorem findIdx_here {zs : List Int} {k : Nat} (hk : k < zs.length) (hb : badW (zs.getD k 0) = true) (hn : ∀ j, j < k → badW (zs.getD j 0) = false) : firstBad zs = (k : Int) := by
  have e : zs.findIdx badW = k := by
    rw [List.findIdx_eq hk]
    refine ⟨by simpa [List.getD_eq_getElem?_getD, hk] using hb, fun j hj => ?_⟩
    have := hn j hj
    simpa [List.getD_eq_getElem?_getD, Nat.lt_trans hj hk] using this
  unfold firstBad; rw [e, if_pos hk]
theorem findIdx_none {zs : List Int} (hn : ∀ j, j < zs.length → badW (zs.getD j 0) = false) : firstBad zs = -1 := by
  unfold firstBad
  rw [if_neg]
  intro hlt
  have h1 := List.findIdx_getElem (w := hlt)
  have h2 := hn _ hlt
  rw [List.getD_eq_getElem?_getD, List.getElem?_eq_getElem hlt] at h2
  simp only [Option.getD_some] at h2
  rw [h1] at h2; cases h2

set_option maxHeartbeats 400000 in
theorem slices_IndexFunc (ao : Option Addr) (len cap : Nat) (zs : List Int) (w : World) (R : RdI .i64 w ao len cap zs) :
    Calls Tryd.prog 78 #[.slice ao len cap, .func (.func 79) #[] #[]] w fun e w' => e = .returned (.int .i64 (firstBad zs)) ∧ w = w' := by
  have HR := Lib.hid R
  have hm : len ≤ 9223372036854775807 := by have := R.lc; have := R.cm; unfold maxLen at *; omega
  clear R
  go_enter Tryd.func78, Tryd.ntmps78
  go_wp2_with fail
  go_loop [8] (fun i => ∃ k : Nat, k ≤ len ∧ i = .int .i64 k ∧ ∀ j, j < k → badW (zs.getD j 0) = false) (fun i => len - (intOf i).toNat)
  case atStart => exact ⟨0, Nat.zero_le _, rfl, fun j hj => by omega⟩
  case round =>
    obtain ⟨k, hk, rfl, hn⟩ := hrel
    by_cases hlt : k < len
    · obtain ⟨b, off, ha, hc⟩ := HR.out.cells k hlt
      have Hn := Lib.hid hn; clear hn
      have Ha := Lib.hid ha; clear ha
      have := Ha.out; subst this
      generalize hz : zs.getD k 0 = z at *
      have Hz := Lib.hid hz; clear hz
      go_wp2_with fail
      refine (draw_bad _ _).mono ?_
      rintro e w' ⟨rfl, rfl⟩
      by_cases hb : badW z = true
      · have HB := Lib.hid (findIdx_here (zs := zs) (k := k) (by rw [HR.out.size]; exact hlt) (by rw [Hz.out]; exact hb) Hn.out)
        rw [hb]
        clear hb
        go_wp2_with fail
        go_ret
        exact ⟨by rw [HB.out]; rfl, rfl⟩
      · have hb' : badW z = false := by simpa using hb
        have HB := Lib.hid hb'
        rw [hb']
        clear hb hb'
        go_wp2_with fail
        go_round
        case rel => exact ⟨k + 1, by omega, by go_num, fun j hj => by
          rcases Nat.lt_or_ge j k with h | h
          · exact Hn.out j h
          · rw [show j = k by omega, Hz.out]; exact HB.out⟩
        case measure => simp [intOf]; omega
    · have HB := Lib.hid (findIdx_none (zs := zs) (fun j hj => hn j (by have := HR.out.size; omega)))
      clear hn
      go_wp2
      go_ret
      exact ⟨by rw [HB.out]; rfl, rfl⟩

theorem Tryd.zeroInt (w : World) : (zeroValue 3).run Tryd.prog w = .ok (.int .i64 0) w := by kernel_rfl

set_option maxRecDepth 8000 in
/-- slices.Grow(nil, n) -/
theorem slices_Grow_nil (n : Nat) (w : World) (hn : n ≤ 1000) :
    Calls Tryd.prog 122 #[.slice none 0 0, .int .i64 n] w fun e w' => ∃ v, e = .returned v ∧ w'.ownsRow w.heap.size 3 1 v 0 [] ∧ Below w.heap.size w w' := by
  obtain ⟨i0, hi, hz0, hz1, hz2⟩ := info_parts (show (Tryd.prog.info? 3).map (fun i => (i.zero, i.size, i.bytes)) = some (some (.int .i64 0), 1, 8) by kernel_rfl)
  rcases Nat.eq_zero_or_pos n with rfl | h0
  · go_enter Tryd.func122, Tryd.ntmps122
    go_wp2
    go_ret
    exact ⟨_, rfl, World.ownsRow_nil _ _ _ _, Below.refl _ _⟩
  · have hr := fun ty => Lib.run_append_nil_zeros (P := Tryd.prog) w 61 3 ty 3 i0 (.int .i64 0) .i64 .i64 Tryd.underlying61 Tryd.underlying3 hi hz0 n h0 (by rw [hz1]; decide) (by omega) (by rw [hz2]; omega)
    have hge := grownCap_ge w n 0 3
    have hcm := grownCap_le_maxLen w n 0 3 (by unfold maxLen; omega)
    have hd0 : (0 : Int) < (n : Int) := by omega
    generalize hcap : grownCap w n 0 3 = cap at *
    have hcl : (Builtin.zeroCells (Value.int .i64 0).cells n ++ Builtin.zeroCells (Value.int .i64 0).cells (cap - n)).size = cap * 1 := by
      simp [Builtin.zeroCells, Value.cells]; omega
    generalize hcs : Builtin.zeroCells (Value.int .i64 0).cells n ++ Builtin.zeroCells (Value.int .i64 0).cells (cap - n) = cs at *
    have HM := Lib.hid hcm; have HG := Lib.hid hge; have HL := Lib.hid hcl
    clear hcs hcap hcm hge hcl hi hz0 hz1 hz2
    go_enter Tryd.func122, Tryd.ntmps122
    have HR := Lib.hid hr; clear hr
    go_wp2_with (at_builtin; refine Lib.wpList_append_run _ rfl (.tmp 20) (.tmp 21) 61 3 rfl _ _ rfl rfl _ _ (HR.out _) ?_)
    all_goals go_ret
    all_goals exact ⟨_, rfl, World.ownsRow_made w.drew cs cap (Nat.le_refl _) HM.out HL.out, ((Below.refl _ _).alloc (Nat.le_refl _) _).drew⟩

/-- what Concat leaves: a slice of the call's own -/
def CatPost (xs ys : List Int) (w : World) (e : Ending) (w' : World) : Prop := ∃ ao cap, e = .returned (.slice ao (xs.length + ys.length) cap) ∧ w'.ownsRow w.heap.size 3 1 (.slice ao (xs.length + ys.length) cap) (xs.length + ys.length) ((xs ++ ys).map (Value.int .i64)) ∧ Below w.heap.size w w'

set_option maxRecDepth 8000 in
set_option maxHeartbeats 1000000 in
/-- slices.Concat(x, y) -/
theorem slices_Concat (lb : Nat) (ax ay : Option Addr) (cx cy : Nat) (xs ys : List Int) (w : World) (RX : RdI .i64 w ax xs.length cx xs) (RY : RdI .i64 w ay ys.length cy ys)
    (h0 : w.cell? ⟨lb, 0, none⟩ = some (.slice ax xs.length cx)) (h1 : w.cell? ⟨lb, 1, none⟩ = some (.slice ay ys.length cy)) (hn : xs.length + ys.length ≤ 1000) :
    Calls Tryd.prog 108 #[.slice (some ⟨lb, 0, none⟩) 2 2] w (CatPost xs ys w) := by
  obtain ⟨i0, hi, hz0, hz1, hz2⟩ := info_parts (show (Tryd.prog.info? 3).map (fun i => (i.zero, i.size, i.bytes)) = some (some (.int .i64 0), 1, 8) by kernel_rfl)
  have HX := Lib.hid RX; have HY := Lib.hid RY
  have H0 := Lib.hid h0; have H1 := Lib.hid h1
  have hbl := World.block_lt_of_cell? _ _ h0
  have lx := RX.size; have ly := RY.size
  clear RX RY
  go_enter Tryd.func108, Tryd.ntmps108
  go_wp2_with fail
  refine wp_loop_rounds 3 ?_
  rw [rounds_succ]
  go_wp2_with fail
  rw [rounds_succ]
  go_wp2_with fail
  rw [rounds_succ]
  go_wp2_with fail
  rw [show ((xs.length : Int) + (ys.length : Int)) = ((xs.length + ys.length : Nat) : Int) from by omega]
  refine (slices_Grow_nil _ _ hn).mono ?_
  rintro e w1 ⟨v, rfl, ho1, hb1⟩
  have c0 := H0.out; have c1 := H1.out
  rw [← hb1.cell (p := ⟨lb, 0, none⟩) hbl] at c0
  rw [← hb1.cell (p := ⟨lb, 1, none⟩) hbl] at c1
  have hz := hb1.size
  have RX1 := HX.out.below hb1
  have Ho1 := Lib.hid ho1; clear ho1
  clear H0 H1 h0 h1
  go_wp2_with fail
  refine wp_loop_rounds 3 ?_
  rw [rounds_succ]
  go_wp2_with (at_builtin; refine wpList_append_rd _ rfl (.tmp 31) (.tmp 32) 61 rfl w.heap.size 3 i0 (.int .i64 0) 8 Tryd.underlying61 hi hz0 hz1 hz2 rfl _ 0 [] rfl Ho1.out .i64 ax xs.length cx xs rfl RX1 (by unfold maxLen; omega) (by omega) hz ?_)
  intro v2 w2 ho2 hg2
  have hb2 : Below w.heap.size w w2 := Below.grown hb1 hg2 hz (fun k hk => (Ho1.out.lt k hk).1)
  have c1' := hg2.cell c1 (own_block Ho1.out hbl)
  clear c0 c1 hg2
  have RY2 := HY.out.below hb2
  have hz2' := hb2.size
  have Ho2 := Lib.hid (show w2.ownsRow w.heap.size 3 1 v2 xs.length (xs.map (Value.int .i64)) from by simpa using ho2); clear ho2
  clear RX1 hb1
  go_wp2_with fail
  rw [rounds_succ]
  go_wp2_with (at_builtin; refine wpList_append_rd _ rfl (.tmp 31) (.tmp 32) 61 rfl w.heap.size 3 i0 (.int .i64 0) 8 Tryd.underlying61 hi hz0 hz1 hz2 rfl _ xs.length (xs.map (Value.int .i64)) rfl Ho2.out .i64 ay ys.length cy ys rfl RY2 (by unfold maxLen; omega) (by omega) hz2' ?_)
  intro v3 w3 ho3 hg3
  have hb3 : Below w.heap.size w w3 := Below.grown hb2 hg3 hz2' (fun k hk => (Ho2.out.lt k hk).1)
  have Ho3 := Lib.hid (show w3.ownsRow w.heap.size 3 1 v3 (xs.length + ys.length) ((xs ++ ys).map (Value.int .i64)) from by simpa [List.map_append] using ho3); clear ho3
  clear c1' hg3 RY2
  go_wp2_with fail
  rw [rounds_succ]
  go_wp2_with fail
  obtain ⟨ao, cap, hv⟩ := own_shape Ho3.out
  have HV := Lib.hid hv; clear hv
  have h3 := Ho3.out
  rw [HV.out] at h3 ⊢
  go_ret
  exact ⟨ao, cap, rfl, h3, hb3⟩
end Go.Proofs.YtajnfkmkombajacDoor
namespace Go.Proofs.YtajnfkmkombajacDoor
open Go.RowKit

def natVs (l : List Nat) : List Value := l.map fun k : Nat => Value.int .i64 (k : Int)
theorem natVs_append (a b : List Nat) : natVs (a ++ b) = natVs a ++ natVs b := by simp [natVs]
def colVs (l : List (Int × Int)) : List Value := l.flatMap fun c => [.int .i64 c.1, .int .i64 c.2]
theorem colVs_length : ∀ l : List (Int × Int), (colVs l).length = 2 * l.length
  | [] => rfl
  | a :: l => by have := colVs_length l; simp only [colVs, List.flatMap_cons, List.length_append, List.length_cons, List.length_nil] at this ⊢; omega
theorem colVs_set : ∀ (l : List (Int × Int)) (k : Nat) (c : Int × Int), k < l.length → colVs (l.set k c) = ((colVs l).set (k * 2) (.int .i64 c.1)).set (k * 2 + 1) (.int .i64 c.2)
  | [], _, _, h => by simp at h
  | a :: l, 0, c, _ => rfl
  | a :: l, k + 1, c, h => by
    have ih := colVs_set l k c (by simpa using h)
    rw [show (k + 1) * 2 = k * 2 + 2 by omega]
    simp only [List.set_cons_succ, colVs, List.flatMap_cons] at ih ⊢
    rw [ih]
    rfl
theorem colVs_get : ∀ (l : List (Int × Int)) (k : Nat), k < l.length → (colVs l)[k * 2]? = some (.int .i64 (l.getD k (0, 0)).1) ∧ (colVs l)[k * 2 + 1]? = some (.int .i64 (l.getD k (0, 0)).2)
  | [], _, h => by simp at h
  | a :: l, 0, _ => ⟨rfl, rfl⟩
  | a :: l, k + 1, h => by
    have ih := colVs_get l k (by simpa using h)
    rw [show (k + 1) * 2 = k * 2 + 2 by omega]
    simpa [colVs] using ih

/-- while columns are filled -/
structure FillAt (W : World) (b cb rb : Nat) (n : Nat) (H : Int) (v5 v6 : Value) (s : VS) (w : World) : Prop where
  below : Below W.heap.size W w
  d : RowAt b 121 [.int .i64 H, .slice (some ⟨cb, 0, none⟩) n n] w
  c : RowAt cb 164 (colVs s.cols) w
  r : RowAt rb 3 (s.rest.map (Value.int .i64)) w
  s5 : OwnSl (rb + 1) 3 v5 (natVs s.small) w
  s6 : OwnSl (rb + 1) 3 v6 (natVs s.great) w
  dj : ∀ g, v5.ownBlock = some g → v6.ownBlock ≠ some g
  nb : W.heap.size ≤ b
  nc : W.heap.size ≤ cb
  bc : b ≠ cb
  br : b < rb
  cr : cb < rb
  cl : s.cols.length = n
  rl : s.rest.length = n

section
variable {W w w' : World} {b cb rb n : Nat} {H : Int} {v5 v6 : Value} {s : VS}
theorem FillAt.drewN (h : FillAt W b cb rb n H v5 v6 s w) (k : Nat) : FillAt W b cb rb n H v5 v6 s (w.drewN k) :=
  ⟨h.below.drewN k, h.d, h.c, h.r, h.s5.kept fun _ _ => rfl, h.s6.kept fun _ _ => rfl, h.dj, h.nb, h.nc, h.bc, h.br, h.cr, h.cl, h.rl⟩
theorem FillAt.far (h : FillAt W b cb rb n H v5 v6 s w) {g : Nat} (hg : v5.ownBlock = some g ∨ v6.ownBlock = some g) : rb < g ∧ g < w.heap.size := by
  rcases hg with hg | hg
  · have := h.s5.blk hg; omega
  · have := h.s6.blk hg; omega
theorem FillAt.setRest (h : FillAt W b cb rb n H v5 v6 s w) (k : Nat) (x : Int) : FillAt W b cb rb n H v5 v6 ⟨s.small, s.great, s.rest.set k x, s.cols⟩ (w.setCell ⟨rb, k, none⟩ (.int .i64 x)) := by
  have hbr := h.br; have hcr := h.cr
  refine ⟨h.below.setCell (by have := h.nb; simp only; omega) _, h.d.set_other (by simp only; omega) _, h.c.set_other (by simp only; omega) _, ?_, ?_, ?_, h.dj, h.nb, h.nc, h.bc, h.br, h.cr, h.cl, by simpa using h.rl⟩
  · have := h.r.set k (.int .i64 x)
    simp only
    rw [List.map_set]; exact this
  · exact h.s5.setCell_other (fun e => by have := h.far (.inl e); simp only at this; omega) _
  · exact h.s6.setCell_other (fun e => by have := h.far (.inr e); simp only at this; omega) _
theorem FillAt.setCol (h : FillAt W b cb rb n H v5 v6 s w) (k : Nat) (hk : k < n) (x y : Int) : FillAt W b cb rb n H v5 v6 ⟨s.small, s.great, s.rest, s.cols.set k (x, y)⟩ ((w.setCell ⟨cb, k * 2, none⟩ (.int .i64 x)).setCell ⟨cb, k * 2 + 1, none⟩ (.int .i64 y)) := by
  have hbr := h.br; have hcr := h.cr; have hbc := h.bc
  refine ⟨(h.below.setCell (by have := h.nc; simp only; omega) _).setCell (by have := h.nc; simp only; omega) _, (h.d.set_other (by simp only; omega) _).set_other (by simp only; omega) _, ?_, (h.r.set_other (by simp only; omega) _).set_other (by simp only; omega) _, ?_, ?_, h.dj, h.nb, h.nc, h.bc, h.br, h.cr, by simpa using h.cl, h.rl⟩
  · simp only
    rw [colVs_set _ _ _ (by rw [h.cl]; exact hk)]
    exact (h.c.set _ _).set _ _
  · exact (h.s5.setCell_other (fun e => by have := h.far (.inl e); simp only at this; omega) _).setCell_other (fun e => by have := h.far (.inl e); simp only at this; omega) _
  · exact (h.s6.setCell_other (fun e => by have := h.far (.inr e); simp only at this; omega) _).setCell_other (fun e => by have := h.far (.inr e); simp only at this; omega) _
theorem FillAt.alloc (h : FillAt W b cb rb n H v5 v6 s w) (o : Obj) : FillAt W b cb rb n H v5 v6 s (w.alloc o) :=
  ⟨h.below.alloc h.below.size o, h.d.alloc o, h.c.alloc o, h.r.alloc o, h.s5.alloc o, h.s6.alloc o, h.dj, h.nb, h.nc, h.bc, h.br, h.cr, h.cl, h.rl⟩
theorem row_grown {b : Nat} {T : TypeId} {vs : List Value} {row : Option Nat} (h : RowAt b T vs w) (hg : w.grownBy w' row) (hne : some b ≠ row) : RowAt b T vs w' := (hg.block b h.lt hne).trans h
/-- something was appended to the one slice -/
theorem FillAt.app5 (h : FillAt W b cb rb n H v5 v6 s w) {v' : Value} {sm : List Nat} (hg : w.grownBy w' v5.ownBlock) (h5 : OwnSl (rb + 1) 3 v' (natVs sm) w') (hw : v'.ownBlock = v5.ownBlock ∨ v'.ownBlock = some w.heap.size) :
    FillAt W b cb rb n H v' v6 ⟨sm, s.great, s.rest, s.cols⟩ w' := by
  have hbr := h.br; have hcr := h.cr
  have hne : ∀ k, k ≤ rb → some k ≠ v5.ownBlock := fun k hk e => by have := h.far (.inl e.symm); omega
  refine ⟨h.below.grown hg h.below.size (fun k hk => by have := h.far (.inl hk); have := h.nb; omega), row_grown h.d hg (hne b (by omega)), row_grown h.c hg (hne cb (by omega)), row_grown h.r hg (hne rb (by omega)), h5, h.s6.grown hg (fun g hv e => h.dj g e.symm hv), ?_, h.nb, h.nc, h.bc, h.br, h.cr, h.cl, h.rl⟩
  intro g hv hv6
  rcases hw with hw | hw
  · exact h.dj g (hw ▸ hv) hv6
  · rw [hw] at hv; cases hv; have := h.far (.inr hv6); omega
theorem FillAt.app6 (h : FillAt W b cb rb n H v5 v6 s w) {v' : Value} {gr : List Nat} (hg : w.grownBy w' v6.ownBlock) (h6 : OwnSl (rb + 1) 3 v' (natVs gr) w') (hw : v'.ownBlock = v6.ownBlock ∨ v'.ownBlock = some w.heap.size) :
    FillAt W b cb rb n H v5 v' ⟨s.small, gr, s.rest, s.cols⟩ w' := by
  have hbr := h.br; have hcr := h.cr
  have hne : ∀ k, k ≤ rb → some k ≠ v6.ownBlock := fun k hk e => by have := h.far (.inr e.symm); omega
  refine ⟨h.below.grown hg h.below.size (fun k hk => by have := h.far (.inr hk); have := h.nb; omega), row_grown h.d hg (hne b (by omega)), row_grown h.c hg (hne cb (by omega)), row_grown h.r hg (hne rb (by omega)), h.s5.grown hg (fun g hv e => h.dj g hv e.symm), h6, ?_, h.nb, h.nc, h.bc, h.br, h.cr, h.cl, h.rl⟩
  intro g hv hv6
  rcases hw with hw | hw
  · exact h.dj g hv (hw ▸ hv6)
  · rw [hw] at hv6; cases hv6; have := h.far (.inl hv); omega
theorem FillAt.re5 (h : FillAt W b cb rb n H v5 v6 s w) {v' : Value} {sm : List Nat} (h5 : OwnSl (rb + 1) 3 v' (natVs sm) w) (hw : v'.ownBlock = v5.ownBlock) : FillAt W b cb rb n H v' v6 ⟨sm, s.great, s.rest, s.cols⟩ w :=
  ⟨h.below, h.d, h.c, h.r, h5, h.s6, fun g hv => h.dj g (hw ▸ hv), h.nb, h.nc, h.bc, h.br, h.cr, h.cl, h.rl⟩
theorem FillAt.re6 (h : FillAt W b cb rb n H v5 v6 s w) {v' : Value} {gr : List Nat} (h6 : OwnSl (rb + 1) 3 v' (natVs gr) w) (hw : v'.ownBlock = v6.ownBlock) : FillAt W b cb rb n H v5 v' ⟨s.small, gr, s.rest, s.cols⟩ w :=
  ⟨h.below, h.d, h.c, h.r, h.s5, h6, fun g hv => hw ▸ h.dj g hv, h.nb, h.nc, h.bc, h.br, h.cr, h.cl, h.rl⟩
theorem FillAt.restCell (h : FillAt W b cb rb n H v5 v6 s w) {k : Nat} (hk : k < n) : w.cell? ⟨rb, k, none⟩ = some (.int .i64 (s.rest.getD k 0)) := by
  rw [h.r.cell, List.getElem?_map, List.getElem?_eq_getElem (by rw [h.rl]; exact hk)]
  simp [h.rl, hk]
theorem FillAt.high (h : FillAt W b cb rb n H v5 v6 s w) : w.cell? ⟨b, 0, none⟩ = some (.int .i64 H) := by rw [h.d.cell]; rfl
theorem FillAt.lcell (h : FillAt W b cb rb n H v5 v6 s w) : w.cell? ⟨b, 1, none⟩ = some (.slice (some ⟨cb, 0, none⟩) n n) := by rw [h.d.cell]; rfl
theorem FillAt.colCells (h : FillAt W b cb rb n H v5 v6 s w) {k : Nat} (hk : k < n) : w.cell? ⟨cb, k * 2, none⟩ = some (.int .i64 (s.cols.getD k (0, 0)).1) ∧ w.cell? ⟨cb, k * 2 + 1, none⟩ = some (.int .i64 (s.cols.getD k (0, 0)).2) := by
  rw [h.c.cell, h.c.cell]; exact colVs_get _ _ (by rw [h.cl]; exact hk)
end

/-- the first loop: what is left, and who has too little -/
def restTo (w : List Int) (k : Nat) : List Int := (restW w).take k ++ List.replicate (w.length - k) 0
def startTo (w : List Int) (k : Nat) : VS := ⟨smallTo w k, greatTo w k, restTo w k, List.replicate w.length (0, 0)⟩
theorem restTo_length (w : List Int) (k : Nat) (hk : k ≤ w.length) : (restTo w k).length = w.length := by simp [restTo, restW]; omega
theorem restTo_succ (w : List Int) (k : Nat) (hk : k < w.length) : (restTo w k).set k (w.getD k 0 * (w.length : Int)) = restTo w (k + 1) := by
  apply List.ext_getElem?
  intro i
  have hl : (restW w).length = w.length := by simp [restW]
  unfold restTo
  rw [List.getElem?_set]
  by_cases hi : k = i
  · subst hi
    rw [if_pos rfl, if_pos (by simp [hl]; omega)]
    rw [List.getElem?_append_left (by simp [hl]; omega), List.getElem?_take, if_pos (by omega)]
    have := restW_getD w k
    rw [List.getD_eq_getElem?_getD, List.getElem?_eq_getElem (by rw [hl]; exact hk)] at this
    rw [List.getElem?_eq_getElem (by rw [hl]; exact hk)]
    simp only [Option.getD_some] at this
    rw [this]
  · rw [if_neg hi]
    rcases Nat.lt_or_ge i k with h | h
    · rw [List.getElem?_append_left (by simp [hl]; omega), List.getElem?_append_left (by simp [hl]; omega), List.getElem?_take, List.getElem?_take, if_pos h, if_pos (by omega)]
    · rw [List.getElem?_append_right (by simp [hl]; omega), List.getElem?_append_right (by simp [hl]; omega), List.getElem?_replicate, List.getElem?_replicate]
      simp only [List.length_take, hl]
      by_cases hin : i < w.length
      · rw [if_pos (by omega), if_pos (by omega)]
      · rw [if_neg (by omega), if_neg (by omega)]
theorem restTo_all (w : List Int) : restTo w w.length = restW w := by
  unfold restTo
  rw [List.take_of_length_le (by simp [restW]), Nat.sub_self, List.replicate_zero, List.append_nil]
theorem restTo_zero (w : List Int) : restTo w 0 = List.replicate w.length 0 := by unfold restTo; simp
theorem startTo_all (w : List Int) : startTo w w.length = VS.start w := by unfold startTo VS.start; rw [restTo_all]
theorem smallTo_yes {w : List Int} {k : Nat} (h : w.getD k 0 * (w.length : Int) < w.sum) : smallTo w (k + 1) = smallTo w k ++ [k] ∧ greatTo w (k + 1) = greatTo w k := by
  unfold smallTo greatTo; rw [List.range_succ, List.filter_append, List.filter_append]
  rw [← restW_getD] at h
  have hd : decide ((restW w).getD k 0 < w.sum) = true := decide_eq_true h
  simp only [List.filter_cons, List.filter_nil, hd, Bool.not_true, if_true, List.append_nil, Bool.false_eq_true, if_false, and_self]
theorem smallTo_no {w : List Int} {k : Nat} (h : ¬ w.getD k 0 * (w.length : Int) < w.sum) : smallTo w (k + 1) = smallTo w k ∧ greatTo w (k + 1) = greatTo w k ++ [k] := by
  unfold smallTo greatTo; rw [List.range_succ, List.filter_append, List.filter_append]
  rw [← restW_getD] at h
  have hd : decide ((restW w).getD k 0 < w.sum) = false := decide_eq_false h
  simp only [List.filter_cons, List.filter_nil, hd, Bool.not_false, if_true, List.append_nil, Bool.false_eq_true, if_false, and_self]
end Go.Proofs.YtajnfkmkombajacDoor
