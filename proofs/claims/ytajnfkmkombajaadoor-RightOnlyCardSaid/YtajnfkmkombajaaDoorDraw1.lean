/- Contracts of what package draw calls of package slices: IndexFunc (at draw.New's test), Grow (of nil), Concat (of two). -/
import Derived.Test.YtajnfkmkombajaaDoorProg
import Derived.Test.YtajnfkmkombajaaDoorAppRd
import Derived.Test.YtajnfkmkombajaaDoorPlDraw
import Derived.Lib.AppendZeros
import Derived.Deep.QuietTactic
import Derived.BigQuiet
import Derived.Outline
import Derived.KernelRfl
set_option linter.unusedVariables false
set_option linter.unusedSimpArgs false
namespace Go.Proofs.YtajnfkmkombajaaDoor
open Go.RowKit

/-- a weight that may not be -/
def badW (n : Int) : Bool := decide (n < 0) || decide (1073741824 < n)

theorem draw_bad (n : Int) (w : World) : Calls Tryd.prog 70 #[.int .i64 n] w fun e w' => e = .returned (.bool (badW n)) ∧ w = w' := by
  by_cases h : n < 0
  · have H := Lib.hid (show badW n = true by simp [badW, h])
    go_enter Tryd.func70, Tryd.ntmps70
    go_wp2
    go_ret
    exact ⟨by rw [H.out]; rfl, rfl⟩
  · have h0 : 0 ≤ n := by omega
    clear h
    go_enter Tryd.func70, Tryd.ntmps70
    go_wp2
    go_ret
    exact ⟨rfl, rfl⟩

/-- the first weight that may not be; -1: none -/
def firstBad (zs : List Int) : Int := if zs.findIdx badW < zs.length then (zs.findIdx badW : Int) else -1

theorem findIdx_here {zs : List Int} {k : Nat} (hk : k < zs.length) (hb : badW (zs.getD k 0) = true) (hn : ∀ j, j < k → badW (zs.getD j 0) = false) : firstBad zs = (k : Int) := by
  have e : zs.findIdx badW = k := by
    rw [List.findIdx_eq hk]
    refine ⟨by simpa [List.getD_eq_getElem?_getD, hk] using hb, fun j hj => ?_⟩
    have := hn j hj
    simpa [List.getD_eq_getElem?_getD, Nat.lt_trans hj hk] using this
  unfold firstBad; rw [e, if_pos hk]
theorem findIdx_none {zs : List Int} (hn : ∀ j, j < zs.length → badW (zs.getD j 0) = false) : firstBad zs = -1 := by
  unfold firstBad
  rw [if_neg]
  intro hlt
  have h1 := List.findIdx_getElem (w := hlt)
  have h2 := hn _ hlt
  rw [List.getD_eq_getElem?_getD, List.getElem?_eq_getElem hlt] at h2
  simp only [Option.getD_some] at h2
  rw [h1] at h2; cases h2

set_option maxHeartbeats 400000 in
theorem slices_IndexFunc (ao : Option Addr) (len cap : Nat) (zs : List Int) (w : World) (R : RdI .i64 w ao len cap zs) :
    Calls Tryd.prog 69 #[.slice ao len cap, .func (.func 70) #[] #[]] w fun e w' => e = .returned (.int .i64 (firstBad zs)) ∧ w = w' := by
  have HR := Lib.hid R
  have hm : len ≤ 9223372036854775807 := by have := R.lc; have := R.cm; unfold maxLen at *; omega
  clear R
  go_enter Tryd.func69, Tryd.ntmps69
  go_wp2_with fail
  go_loop [8] (fun i => ∃ k : Nat, k ≤ len ∧ i = .int .i64 k ∧ ∀ j, j < k → badW (zs.getD j 0) = false) (fun i => len - (intOf i).toNat)
  case atStart => exact ⟨0, Nat.zero_le _, rfl, fun j hj => by omega⟩
  case round =>
    obtain ⟨k, hk, rfl, hn⟩ := hrel
    by_cases hlt : k < len
    · obtain ⟨b, off, ha, hc⟩ := HR.out.cells k hlt
      have Hn := Lib.hid hn; clear hn
      have Ha := Lib.hid ha; clear ha
      have := Ha.out; subst this
      generalize hz : zs.getD k 0 = z at *
      have Hz := Lib.hid hz; clear hz
      go_wp2_with fail
      refine (draw_bad _ _).mono ?_
      rintro e w' ⟨rfl, rfl⟩
      by_cases hb : badW z = true
      · have HB := Lib.hid (findIdx_here (zs := zs) (k := k) (by rw [HR.out.size]; exact hlt) (by rw [Hz.out]; exact hb) Hn.out)
        rw [hb]
        clear hb
        go_wp2_with fail
        go_ret
        exact ⟨by rw [HB.out]; rfl, rfl⟩
      · have hb' : badW z = false := by simpa using hb
        have HB := Lib.hid hb'
        rw [hb']
        clear hb hb'
        go_wp2_with fail
        go_round
        case rel => exact ⟨k + 1, by omega, by go_num, fun j hj => by
          rcases Nat.lt_or_ge j k with h | h
          · exact Hn.out j h
          · rw [show j = k by omega, Hz.out]; exact HB.out⟩
        case measure => simp [intOf]; omega
    · have HB := Lib.hid (findIdx_none (zs := zs) (fun j hj => hn j (by have := HR.out.size; omega)))
      clear hn
      go_wp2
      go_ret
      exact ⟨by rw [HB.out]; rfl, rfl⟩

theorem Tryd.zeroInt (w : World) : (zeroValue 3).run Tryd.prog w = .ok (.int .i64 0) w := by kernel_rfl

set_option maxRecDepth 8000 in
/-- slices.Grow(nil, n) -/
theorem slices_Grow_nil (n : Nat) (w : World) (hn : n ≤ 1000) :
    Calls Tryd.prog 95 #[.slice none 0 0, .int .i64 n] w fun e w' => ∃ v, e = .returned v ∧ w'.ownsRow w.heap.size 3 1 v 0 [] ∧ Below w.heap.size w w' := by
  obtain ⟨i0, hi, hz0, hz1, hz2⟩ := info_parts (show (Tryd.prog.info? 3).map (fun i => (i.zero, i.size, i.bytes)) = some (some (.int .i64 0), 1, 8) by kernel_rfl)
  rcases Nat.eq_zero_or_pos n with rfl | h0
  · go_enter Tryd.func95, Tryd.ntmps95
    go_wp2
    go_ret
    exact ⟨_, rfl, World.ownsRow_nil _ _ _ _, Below.refl _ _⟩
  · have hr := fun ty => Lib.run_append_nil_zeros (P := Tryd.prog) w 23 3 ty 3 i0 (.int .i64 0) .i64 .i64 Tryd.underlying23 Tryd.underlying3 hi hz0 n h0 (by rw [hz1]; decide) (by omega) (by rw [hz2]; omega)
    have hge := grownCap_ge w n 0 3
    have hcm := grownCap_le_maxLen w n 0 3 (by unfold maxLen; omega)
    have hd0 : (0 : Int) < (n : Int) := by omega
    generalize hcap : grownCap w n 0 3 = cap at *
    have hcl : (Builtin.zeroCells (Value.int .i64 0).cells n ++ Builtin.zeroCells (Value.int .i64 0).cells (cap - n)).size = cap * 1 := by
      simp [Builtin.zeroCells, Value.cells]; omega
    generalize hcs : Builtin.zeroCells (Value.int .i64 0).cells n ++ Builtin.zeroCells (Value.int .i64 0).cells (cap - n) = cs at *
    have HM := Lib.hid hcm; have HG := Lib.hid hge; have HL := Lib.hid hcl
    clear hcs hcap hcm hge hcl hi hz0 hz1 hz2
    go_enter Tryd.func95, Tryd.ntmps95
    have HR := Lib.hid hr; clear hr
    go_wp2_with (at_builtin; refine Lib.wpList_append_run _ rfl (.tmp 20) (.tmp 21) 23 3 rfl _ _ rfl rfl _ _ (HR.out _) ?_)
    all_goals go_ret
    all_goals exact ⟨_, rfl, World.ownsRow_made w.drew cs cap (Nat.le_refl _) HM.out HL.out, ((Below.refl _ _).alloc (Nat.le_refl _) _).drew⟩

/-- what Concat leaves: a slice of the call's own -/
def CatPost (xs ys : List Int) (w : World) (e : Ending) (w' : World) : Prop := ∃ ao cap, e = .returned (.slice ao (xs.length + ys.length) cap) ∧ w'.ownsRow w.heap.size 3 1 (.slice ao (xs.length + ys.length) cap) (xs.length + ys.length) ((xs ++ ys).map (Value.int .i64)) ∧ Below w.heap.size w w'

set_option maxRecDepth 8000 in
set_option maxHeartbeats 1000000 in
/-- slices.Concat(x, y) -/
theorem slices_Concat (lb : Nat) (ax ay : Option Addr) (cx cy : Nat) (xs ys : List Int) (w : World) (RX : RdI .i64 w ax xs.length cx xs) (RY : RdI .i64 w ay ys.length cy ys)
    (h0 : w.cell? ⟨lb, 0, none⟩ = some (.slice ax xs.length cx)) (h1 : w.cell? ⟨lb, 1, none⟩ = some (.slice ay ys.length cy)) (hn : xs.length + ys.length ≤ 1000) :
    Calls Tryd.prog 85 #[.slice (some ⟨lb, 0, none⟩) 2 2] w (CatPost xs ys w) := by
  obtain ⟨i0, hi, hz0, hz1, hz2⟩ := info_parts (show (Tryd.prog.info? 3).map (fun i => (i.zero, i.size, i.bytes)) = some (some (.int .i64 0), 1, 8) by kernel_rfl)
  have HX := Lib.hid RX; have HY := Lib.hid RY
  have H0 := Lib.hid h0; have H1 := Lib.hid h1
  have hbl := World.block_lt_of_cell? _ _ h0
  have lx := RX.size; have ly := RY.size
  clear RX RY
  go_enter Tryd.func85, Tryd.ntmps85
  go_wp2_with fail
  refine wp_loop_rounds 3 ?_
  rw [rounds_succ]
  go_wp2_with fail
  rw [rounds_succ]
  go_wp2_with fail
  rw [rounds_succ]
  go_wp2_with fail
  rw [show ((xs.length : Int) + (ys.length : Int)) = ((xs.length + ys.length : Nat) : Int) from by omega]
  refine (slices_Grow_nil _ _ hn).mono ?_
  rintro e w1 ⟨v, rfl, ho1, hb1⟩
  have c0 := H0.out; have c1 := H1.out
  rw [← hb1.cell (p := ⟨lb, 0, none⟩) hbl] at c0
  rw [← hb1.cell (p := ⟨lb, 1, none⟩) hbl] at c1
  have hz := hb1.size
  have RX1 := HX.out.below hb1
  have Ho1 := Lib.hid ho1; clear ho1
  clear H0 H1 h0 h1
  go_wp2_with fail
  refine wp_loop_rounds 3 ?_
  rw [rounds_succ]
  go_wp2_with (at_builtin; refine wpList_append_rd _ rfl (.tmp 31) (.tmp 32) 23 rfl w.heap.size 3 i0 (.int .i64 0) 8 Tryd.underlying23 hi hz0 hz1 hz2 rfl _ 0 [] rfl Ho1.out .i64 ax xs.length cx xs rfl RX1 (by unfold maxLen; omega) (by omega) hz ?_)
  intro v2 w2 ho2 hg2
  have hb2 : Below w.heap.size w w2 := Below.grown hb1 hg2 hz (fun k hk => (Ho1.out.lt k hk).1)
  have c1' := hg2.cell c1 (own_block Ho1.out hbl)
  clear c0 c1 hg2
  have RY2 := HY.out.below hb2
  have hz2' := hb2.size
  have Ho2 := Lib.hid (show w2.ownsRow w.heap.size 3 1 v2 xs.length (xs.map (Value.int .i64)) from by simpa using ho2); clear ho2
  clear RX1 hb1
  go_wp2_with fail
  rw [rounds_succ]
  go_wp2_with (at_builtin; refine wpList_append_rd _ rfl (.tmp 31) (.tmp 32) 23 rfl w.heap.size 3 i0 (.int .i64 0) 8 Tryd.underlying23 hi hz0 hz1 hz2 rfl _ xs.length (xs.map (Value.int .i64)) rfl Ho2.out .i64 ay ys.length cy ys rfl RY2 (by unfold maxLen; omega) (by omega) hz2' ?_)
  intro v3 w3 ho3 hg3
  have hb3 : Below w.heap.size w w3 := Below.grown hb2 hg3 hz2' (fun k hk => (Ho2.out.lt k hk).1)
  have Ho3 := Lib.hid (show w3.ownsRow w.heap.size 3 1 v3 (xs.length + ys.length) ((xs ++ ys).map (Value.int .i64)) from by simpa [List.map_append] using ho3); clear ho3
  clear c1' hg3 RY2
  go_wp2_with fail
  rw [rounds_succ]
  go_wp2_with fail
  obtain ⟨ao, cap, hv⟩ := own_shape Ho3.out
  have HV := Lib.hid hv; clear hv
  have h3 := Ho3.out
  rw [HV.out] at h3 ⊢
  go_ret
  exact ⟨ao, cap, rfl, h3, hb3⟩
end Go.Proofs.YtajnfkmkombajaaDoor
