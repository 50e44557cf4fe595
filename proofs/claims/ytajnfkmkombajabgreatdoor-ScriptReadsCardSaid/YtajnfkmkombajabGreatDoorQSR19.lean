/-
  Contracts of package draw: New.
  Contracts of package draw: Height, Columns, Column, Pick.
  Plain facts on the numbers of package lots: what one lot is, that lots of one seed differ, and that mixing in two steps is mixing. No program in sight.
  Contract of the laws' OwnInts: a copy of the numbers.
  Contracts of package lots: New, Next, Mix; and the law's OwnInts.
  Plain: numbers below a number, by lots: the first lot that serves is found. No program in sight.
  Contracts of package lots: Below.
-/
import Derived.Test.YtajnfkmkombajabGreatDoorQSR18
import Derived.Test.YtajnfkmkombajabGreatDoorQSR02
import Derived.WalkKit
import Derived.Test.YtajnfkmkombajabGreatDoorProg
import Derived.Test.YtajnfkmkombajabGreatDoorQSR01
import Derived.Outline
import Derived.Laws.AppendOwnNone
import Derived.KernelRfl
import Derived.Deep.LoopGhost
import Derived.Deep.QuietTactic
import Derived.BigQuiet
set_option linter.unusedVariables false
set_option linter.unusedSimpArgs false
set_option linter.unusedVariables false
namespace Go.Proofs.YtajnfkmkombajabGreatDoor
open Go.RowKit

/-- what is wrong with weights: an error's number, and its place -/
def weightsF (zs : List Int) : Nat × Int := if zs.length < 1 ∨ 64 < zs.length then (3, -1) else if 0 ≤ firstBad zs then (2, firstBad zs) else if zs.sum = 0 then (4, -1) else (0, -1)

/-- blocks b and cb are a draw of the weights zs -/
structure DrawAt (b cb : Nat) (zs : List Int) (w : World) : Prop where
  d : RowAt b 177 [.int .i64 zs.sum, .slice (some ⟨cb, 0, none⟩) zs.length zs.length] w
  c : RowAt cb 210 (colVs (vose zs)) w

def NewPost (A : Nat → Addr) (zs : List Int) (w : World) (e : Ending) (w' : World) : Prop :=
  ∃ p v, e = .returned (.tuple #[p, v]) ∧ ErrIs A w w' v (weightsF zs) ∧ Below w.heap.size w w' ∧
    (((weightsF zs).1 ≠ 0 ∧ p = .pointer none) ∨ ((weightsF zs).1 = 0 ∧ ∃ b cb, p = .pointer (some ⟨b, 0, none⟩) ∧ w.heap.size ≤ b ∧ w.heap.size ≤ cb ∧ DrawAt b cb zs w'))

theorem make_cols (n : Nat) (hn : n ≤ 1000000) (w : World) : (Instr.makeSlice 175 (.int .i64 (n : Int)) (.int .i64 (n : Int))).run Tryz.prog w = .ok (.slice (some ⟨w.heap.size, 0, none⟩) n n) (w.alloc (.cells (zeroVs (n * 2)).toArray 210)) := by
  obtain ⟨i0, hi, hz0, hz1, hz2⟩ := info_parts (show (Tryz.prog.info? 210).map (fun i => (i.zero, i.size, i.bytes)) = some (some (.agg #[.int .i64 0, .int .i64 0]), 2, 16) by kernel_rfl)
  have hr := run_make (P := Tryz.prog) w 175 210 i0 _ Tryz.underlying175 hi hz0 .i64 .i64 n n (by omega) (Int.le_refl _) (by rw [hz2]; omega) (by omega)
  rw [← made_two]
  simpa [hz1, Value.cells] using hr

theorem bad_pos (zs : List Int) (h : ¬ 0 ≤ firstBad zs) : ∀ x ∈ zs, 0 ≤ x ∧ x ≤ 1073741824 := by
  intro x hx
  obtain ⟨i, hi⟩ := List.getElem?_of_mem hx
  have hn : ¬ zs.findIdx badW < zs.length := by
    intro hlt; apply h; unfold firstBad; rw [if_pos hlt]; omega
  have hall : ∀ y ∈ zs, badW y = false := by
    intro y hy
    have := List.findIdx_eq_length.1 (show zs.findIdx badW = zs.length by have := List.findIdx_le_length (p := badW) (xs := zs); omega)
    simpa using this y hy
  have := hall x hx
  simp [badW] at this
  omega
theorem sum_bds {zs : List Int} (hz : ∀ x ∈ zs, 0 ≤ x ∧ x ≤ 1073741824) : 0 ≤ zs.sum ∧ zs.sum ≤ 1073741824 * (zs.length : Int) := by
  induction zs with
  | nil => simp
  | cons a l ih =>
    have h1 := ih (fun x hx => hz x (by simp [hx])); have h2 := hz a (by simp)
    simp only [List.sum_cons, List.length_cons]; omega
theorem zero_cols (n : Nat) : zeroVs (n * 2) = colVs (List.replicate n (0, 0)) := by
  induction n with
  | zero => rfl
  | succ n ih =>
    rw [List.replicate_succ, show (n + 1) * 2 = n * 2 + 1 + 1 by omega]
    simp only [zeroVs, colVs, List.replicate_succ, List.map_cons, List.flatMap_cons] at ih ⊢
    rw [ih]; rfl

set_option maxRecDepth 8000 in
set_option maxHeartbeats 1000000 in
theorem draw_New (A : Nat → Addr) (S : List Nat) (ao : Option Addr) (cap : Nat) (zs : List Int) (w : World) (R : RdI .i64 w ao zs.length cap zs) (hE : Errs A S w) (h2 : 2 ∈ S) (h3 : 3 ∈ S) (h4 : 4 ∈ S) :
    Calls Tryz.prog 109 #[.slice ao zs.length cap] w (NewPost A zs w) := by
  have g2 : w.cell? ⟨0, 0, none⟩ = some (.iface 235 (.pointer (some (A 2)))) := hE.cell 2 h2
  have g3 : w.cell? ⟨2, 0, none⟩ = some (.iface 235 (.pointer (some (A 3)))) := hE.cell 3 h3
  have HR := Lib.hid R
  have HE := Lib.hid hE; clear hE
  by_cases hlen : zs.length < 1 ∨ 64 < zs.length
  · have HW := Lib.hid (show weightsF zs = (3, -1) from if_pos hlen)
    clear R
    by_cases h1 : zs.length < 1
    · have e1 : decide ((zs.length : Int) < 1) = true := by simp; omega
      clear hlen
      generalize hn : zs.length = n at *
      go_enter Tryz.func109, Tryz.ntmps109
      go_wp2_with fail
      go_quiet (fail)
      go_wp2_with fail
      go_ret2
      exact ⟨_, _, rfl, by rw [HW.out]; exact .inl ⟨rfl, rfl⟩, (Below.refl _ _).drewN _, .inl ⟨by rw [HW.out]; simp, rfl⟩⟩
    · have e1 : decide ((zs.length : Int) < 1) = false := by simp; omega
      have e2 : decide ((64 : Int) < (zs.length : Int)) = true := by simp; omega
      clear hlen
      generalize hn : zs.length = n at *
      go_enter Tryz.func109, Tryz.ntmps109
      go_wp2_with fail
      go_quiet (fail)
      go_wp2_with fail
      go_ret2
      exact ⟨_, _, rfl, by rw [HW.out]; exact .inl ⟨rfl, rfl⟩, (Below.refl _ _).drewN _, .inl ⟨by rw [HW.out]; simp, rfl⟩⟩
  · have e1 : decide ((zs.length : Int) < 1) = false := by simp; omega
    have e2 : decide ((64 : Int) < (zs.length : Int)) = false := by simp; omega
    clear R
    by_cases hbad : 0 ≤ firstBad zs
    · have HW := Lib.hid (show weightsF zs = (2, firstBad zs) by unfold weightsF; rw [if_neg hlen, if_pos hbad])
      clear hlen
      generalize hn : zs.length = n at *
      have HN := Lib.hid hn; clear hn
      go_enter Tryz.func109, Tryz.ntmps109
      go_wp2_with fail
      refine (slices_IndexFunc _ _ _ _ _ HR.out).mono ?_
      rintro e w' ⟨rfl, rfl⟩
      generalize hfb : firstBad zs = fb at *
      have HFB := Lib.hid hfb; clear hfb
      go_wp2_with fail
      go_region
      all_goals go_wp2_with fail
      all_goals go_ret2
      all_goals exact ⟨_, _, rfl, by rw [HW.out]; exact .inr ⟨hbad, w.heap.size, Nat.le_refl _, rfl, by simp, by simp; rfl⟩, ((Below.refl _ _).alloc (Nat.le_refl _) _).drew, .inl ⟨by rw [HW.out]; simp, rfl⟩⟩
    · have hz := bad_pos zs hbad
      have hfb : firstBad zs = -1 := by unfold firstBad at hbad ⊢; split <;> rename_i hh <;> simp_all
      have hsb := sum_bds hz
      have hW : weightsF zs = if zs.sum = 0 then (4, -1) else (0, -1) := by unfold weightsF; rw [if_neg hlen, if_neg hbad]
      have htk : ∀ k, k < zs.length → 0 ≤ (zs.take k).sum ∧ (zs.take k).sum ≤ 68719476736 := by
        intro k hk
        have h := sum_bds (zs := zs.take k) (fun x hx => hz x (List.mem_of_mem_take hx))
        rw [List.length_take] at h
        omega
      have hts : ∀ k, k < zs.length → (zs.take (k + 1)).sum = (zs.take k).sum + zs.getD k 0 := by
        intro k hk
        rw [List.take_succ_eq_append_getElem hk, List.sum_append]
        simp [hk]
      have hmk := make_cols zs.length (by omega)
      have HFB := Lib.hid hfb
      have HW := Lib.hid hW; have HZ := Lib.hid hz; have HT := Lib.hid htk; have HS := Lib.hid hts
      have hl1 : 0 < zs.length := by omega
      have hl2 : zs.length ≤ 64 := by omega
      have hs0 : 0 ≤ zs.sum := hsb.1
      have hs1 : zs.sum ≤ 68719476736 := by have := hsb.2; omega
      clear hlen hbad hz hfb hsb hW htk hts
      obtain ⟨_, wb, off, ha, hwb, hcell0⟩ := (HR.out.split).resolve_left (by omega)
      clear hcell0
      have Ha := Lib.hid ha; clear ha
      have := Ha.out; subst this
      have HFill := Lib.hid (fun b cb wx => draw_fill w (some ⟨wb, off, none⟩) cap zs b cb wx HR.out)
      have hg4 : w.cell? ⟨3, 0, none⟩ = some (.iface 235 (.pointer (some (A 4)))) := HE.out.cell 4 h4
      have g4 := Lib.hid hg4; clear hg4 g2 g3
      generalize hn : zs.length = n at *
      have HN := Lib.hid hn; clear hn
      generalize hH : zs.sum = H at *
      have HHs := Lib.hid hH; clear hH
      go_enter Tryz.func109, Tryz.ntmps109
      go_wp2_with fail
      refine (slices_IndexFunc _ _ _ _ _ HR.out).mono ?_
      rintro e w' ⟨rfl, rfl⟩
      rw [HFB.out]
      go_wp2_with fail
      go_loopg [33] n (fun g i wr => ∃ k : Nat, g + k = n ∧ i = .int .i64 k ∧ Below w.heap.size w wr ∧ RowAt w.heap.size 210 (colVs (List.replicate n (0, 0))) wr ∧ RowAt (w.heap.size + 1) 177 [.int .i64 (zs.take k).sum, .slice (some ⟨w.heap.size, 0, none⟩) n n] wr)
      case atStart =>
        refine ⟨0, rfl, rfl, ((Below.refl _ _).alloc (Nat.le_refl _) _).alloc (by simp) _, ?_, ?_⟩
        · rw [← zero_cols]
          exact (RowAt.new w 210 (zeroVs (n * 2))).alloc _
        · have := RowAt.new (w.alloc (.cells (zeroVs (n * 2)).toArray 210)) 177 [.int .i64 0, .slice (some ⟨w.heap.size, 0, none⟩) n n]
          simpa using this
      case round =>
        obtain ⟨k, hg, rfl, hb, hc, hd⟩ := hrel
        have hG := Lib.hid hg; clear hg
        clear hmk
        have q1 : wr.cell? ⟨w.heap.size + 1, 0, none⟩ = some (.int .i64 (zs.take k).sum) := by rw [hd.cell]; rfl
        have q2 := hd.frozen 0
        have hsz := hb.size
        by_cases hlt : k < n
        · obtain ⟨b', off', ha', hcz⟩ := (HR.out.below hb).cells k hlt
          cases ha'
          have hts := HS.out k hlt
          have hzk : zs.getD k 0 ∈ zs := by rw [List.getD_eq_getElem?_getD, List.getElem?_eq_getElem (by rw [HN.out]; exact hlt)]; exact List.getElem_mem _
          have hzb := HZ.out _ hzk
          have htb := HT.out k hlt
          have hnew := hd.set 0 (.int .i64 ((zs.take k).sum + zs.getD k 0))
          rw [← hts] at hnew
          have HB := Lib.hid hb; have HC := Lib.hid hc; have HNew := Lib.hid hnew; have HTS := Lib.hid hts
          clear hb hc hd hnew hts hzk
          generalize zs.getD k 0 = z at *
          generalize (zs.take k).sum = t at *
          go_wp2_with fail
          have hg := hG.out
          go_roundg (n - (k + 1))
          case measure => omega
          case rel => exact ⟨k + 1, by omega, by go_num, HB.out.setCell (by simp only; omega) _, HC.out.set_other (by simp only; omega) _, by have := HNew.out; rw [HTS.out] at this ⊢; exact this⟩
        · have hall : zs.take k = zs := List.take_of_length_le (by rw [HN.out]; omega)
          rw [hall, HHs.out] at hd q1
          have g4' := g4.out
          rw [← hb.cell (p := ⟨3, 0, none⟩) (World.block_lt_of_cell? _ _ g4')] at g4'
          have HB := Lib.hid hb; have HC := Lib.hid hc; have HD := Lib.hid hd
          clear hall hb hc hd
          by_cases hz : H = 0
          · have hW := HW.out
            rw [if_pos hz] at hW
            have HW2 := Lib.hid hW; clear hW
            subst hz
            go_wp2_with fail
            go_quiet (fail)
            go_wp2_with fail
            go_ret2
            exact ⟨_, _, rfl, by rw [HW2.out]; exact .inl ⟨rfl, rfl⟩, HB.out.drewN _, .inl ⟨by rw [HW2.out]; simp, rfl⟩⟩
          · have hW := HW.out
            rw [if_neg hz] at hW
            have HW2 := Lib.hid hW; clear hW
            have hz' : (H == 0) = false := by simpa using hz
            clear hz
            go_wp2_with fail
            refine (HFill.out (w.heap.size + 1) w.heap.size _ HB.out (by omega) (Nat.le_refl _) (by omega) HD.out HC.out hl1 hl2 HZ.out hs0 hs1).mono ?_
            rintro e w2 ⟨rfl, b2, d2, c2⟩
            have HB2 := Lib.hid b2; have HC2 := Lib.hid c2; have HD2 := Lib.hid d2
            clear b2 c2 d2
            go_wp2_with fail
            go_ret2
            refine ⟨_, _, rfl, by rw [HW2.out]; exact .inl ⟨rfl, rfl⟩, HB2.out, .inr ⟨by rw [HW2.out], w.heap.size + 1, w.heap.size, rfl, by omega, Nat.le_refl _, ⟨?_, HC2.out⟩⟩⟩
            rw [HN.out, HHs.out]; exact HD2.out
end Go.Proofs.YtajnfkmkombajabGreatDoor
namespace Go.Proofs.YtajnfkmkombajabGreatDoor
open Go.RowKit

section
variable {b cb : Nat} {zs : List Int} {w w' : World}
theorem DrawAt.keep {F : Nat → Prop} (h : DrawAt b cb zs w) (k : Keep F w w') (h1 : ¬ F b) (h2 : ¬ F cb) : DrawAt b cb zs w' := ⟨h.d.keep k h1, h.c.keep k h2⟩
theorem DrawAt.below (h : DrawAt b cb zs w) (k : Below w.heap.size w w') : DrawAt b cb zs w' := ⟨h.d.below k h.d.lt, h.c.below k h.c.lt⟩
theorem DrawAt.drewN (h : DrawAt b cb zs w) (n : Nat) : DrawAt b cb zs (w.drewN n) := ⟨h.d, h.c⟩
theorem DrawAt.high (h : DrawAt b cb zs w) : w.cell? ⟨b, 0, none⟩ = some (.int .i64 zs.sum) := by rw [h.d.cell]; rfl
theorem DrawAt.lst (h : DrawAt b cb zs w) : w.cell? ⟨b, 1, none⟩ = some (.slice (some ⟨cb, 0, none⟩) zs.length zs.length) := by rw [h.d.cell]; rfl
theorem DrawAt.col (h : DrawAt b cb zs w) (hz : ∀ x ∈ zs, 0 ≤ x) {k : Nat} (hk : k < zs.length) : w.cell? ⟨cb, k * 2, none⟩ = some (.int .i64 ((vose zs).getD k (0, 0)).1) ∧ w.cell? ⟨cb, k * 2 + 1, none⟩ = some (.int .i64 ((vose zs).getD k (0, 0)).2) := by
  rw [h.c.cell, h.c.cell]; exact colVs_get _ _ (by rw [(vose_just zs hz).size]; exact hk)
end

theorem weights_ok {zs : List Int} (h : (weightsF zs).1 = 0) : weightsF zs = (0, -1) ∧ 1 ≤ zs.length ∧ zs.length ≤ 64 ∧ (∀ x ∈ zs, 0 ≤ x ∧ x ≤ 1073741824) ∧ 1 ≤ zs.sum ∧ zs.sum ≤ 68719476736 := by
  unfold weightsF at h ⊢
  by_cases h1 : zs.length < 1 ∨ 64 < zs.length
  · rw [if_pos h1] at h; simp at h
  · rw [if_neg h1] at h ⊢
    by_cases h2 : 0 ≤ firstBad zs
    · rw [if_pos h2] at h; simp at h
    · rw [if_neg h2] at h ⊢
      by_cases h3 : zs.sum = 0
      · rw [if_pos h3] at h; simp at h
      · have hz := bad_pos zs h2
        have hs := sum_bds hz
        have : 1073741824 * (zs.length : Int) ≤ 1073741824 * 64 := by omega
        rw [if_neg h3]
        exact ⟨rfl, by omega, by omega, hz, by omega, by omega⟩

theorem draw_Height (b cb : Nat) (zs : List Int) (w : World) (h : DrawAt b cb zs w) :
    Calls Tryz.prog 114 #[.pointer (some ⟨b, 0, none⟩)] w fun e w' => e = .returned (.int .i64 zs.sum) ∧ w = w' := by
  have q := h.high
  clear h
  generalize zs.sum = H at *
  go_enter Tryz.func114, Tryz.ntmps114
  go_wp2
  go_ret
  exact ⟨rfl, rfl⟩
theorem draw_Columns (b cb : Nat) (zs : List Int) (w : World) (h : DrawAt b cb zs w) :
    Calls Tryz.prog 113 #[.pointer (some ⟨b, 0, none⟩)] w fun e w' => e = .returned (.int .i64 zs.length) ∧ w = w' := by
  have q := h.lst
  clear h
  generalize zs.length = n at *
  go_enter Tryz.func113, Tryz.ntmps113
  go_wp2
  go_ret
  exact ⟨rfl, rfl⟩

set_option maxHeartbeats 400000 in
theorem draw_Column_in (b cb : Nat) (zs : List Int) (k : Nat) (w : World) (h : DrawAt b cb zs w) (hz : ∀ x ∈ zs, 0 ≤ x) (hk : k < zs.length) :
    Calls Tryz.prog 133 #[.pointer (some ⟨b, 0, none⟩), .int .i64 k] w fun e w' => e = .returned (.tuple #[.int .i64 ((vose zs).getD k (0, 0)).1, .int .i64 ((vose zs).getD k (0, 0)).2, .nilIface]) ∧ Dr w w' := by
  have q1 := h.lst
  obtain ⟨q2, q3⟩ := h.col hz hk
  clear h hz
  generalize ((vose zs).getD k (0, 0)).1 = x at *
  generalize ((vose zs).getD k (0, 0)).2 = y at *
  generalize zs.length = n at *
  have e1 : decide ((n : Int) ≤ (k : Int)) = false := by simp; omega
  have i0 : (0 : Int) ≤ (k : Int) := by omega
  have i1 : (k : Int) < (n : Int) := by omega
  go_enter Tryz.func133, Tryz.ntmps133
  go_wp2_with fail
  go_quiet (fail)
  go_wp2_with fail
  go_ret3
  exact ⟨rfl, nq, rfl⟩

set_option maxHeartbeats 400000 in
theorem draw_Column_out (A : Nat → Addr) (S : List Nat) (b cb : Nat) (zs : List Int) (k : Int) (w : World) (h : DrawAt b cb zs w) (hE : Errs A S w) (h2 : 2 ∈ S) (hk : k < 0 ∨ (zs.length : Int) ≤ k) :
    Calls Tryz.prog 133 #[.pointer (some ⟨b, 0, none⟩), .int .i64 k] w fun e w' => e = .returned (.tuple #[.int .i64 0, .int .i64 0, ev A 2]) ∧ Dr w w' := by
  have g2 : w.cell? ⟨0, 0, none⟩ = some (.iface 235 (.pointer (some (A 2)))) := hE.cell 2 h2
  have q1 := h.lst
  clear h hE
  generalize zs.length = n at *
  by_cases h0 : k < 0
  · clear hk
    go_enter Tryz.func133, Tryz.ntmps133
    go_wp2_with fail
    go_quiet (fail)
    go_wp2_with fail
    go_ret3
    exact ⟨rfl, nq, rfl⟩
  · have hk' : (n : Int) ≤ k := by omega
    have e0 : decide (k < 0) = false := by simp; omega
    clear hk
    go_enter Tryz.func133, Tryz.ntmps133
    go_wp2_with fail
    go_quiet (fail)
    go_wp2_with fail
    go_ret3
    exact ⟨rfl, nq, rfl⟩

set_option maxHeartbeats 400000 in
theorem draw_Pick_in (b cb : Nat) (zs : List Int) (k : Nat) (a : Int) (w : World) (h : DrawAt b cb zs w) (hz : ∀ x ∈ zs, 0 ≤ x) (hk : k < zs.length) (h0 : 0 ≤ a) (h1 : a < zs.sum) :
    Calls Tryz.prog 115 #[.pointer (some ⟨b, 0, none⟩), .int .i64 k, .int .i64 a] w fun e w' => e = .returned (.tuple #[.int .i64 (pickOf (vose zs) k a), .nilIface]) ∧ Dr w w' := by
  have hC := Lib.hid (draw_Column_in b cb zs k w h hz hk)
  have q1 := h.high
  clear h hz hk
  have HP := Lib.hid (show pickOf (vose zs) k a = if a < ((vose zs).getD k (0, 0)).1 then (k : Int) else ((vose zs).getD k (0, 0)).2 from rfl)
  generalize ((vose zs).getD k (0, 0)).1 = x at *
  generalize ((vose zs).getD k (0, 0)).2 = y at *
  generalize zs.sum = H at *
  generalize pickOf (vose zs) k a = pk at *
  have e0 : decide (a < 0) = false := by simp; omega
  have e1 : decide (H ≤ a) = false := by simp; omega
  by_cases hx : a < x
  · go_enter Tryz.func115, Tryz.ntmps115
    go_wp2_with fail
    refine hC.out.mono ?_
    rintro e w' ⟨rfl, n, rfl⟩
    go_wp2_with fail
    go_ret2
    exact ⟨by rw [HP.out, if_pos hx]; rfl, n, rfl⟩
  · go_enter Tryz.func115, Tryz.ntmps115
    go_wp2_with fail
    refine hC.out.mono ?_
    rintro e w' ⟨rfl, n, rfl⟩
    go_wp2_with fail
    go_ret2
    exact ⟨by rw [HP.out, if_neg (by omega)]; rfl, n, rfl⟩

set_option maxHeartbeats 400000 in
theorem draw_Pick_out (A : Nat → Addr) (S : List Nat) (b cb : Nat) (zs : List Int) (k a : Int) (w : World) (h : DrawAt b cb zs w) (hz : ∀ x ∈ zs, 0 ≤ x) (hE : Errs A S w) (h2 : 2 ∈ S) (hk : ¬ (0 ≤ k ∧ k < (zs.length : Int) ∧ 0 ≤ a ∧ a < zs.sum)) :
    Calls Tryz.prog 115 #[.pointer (some ⟨b, 0, none⟩), .int .i64 k, .int .i64 a] w fun e w' => e = .returned (.tuple #[.int .i64 0, ev A 2]) ∧ Dr w w' := by
  have g2 : w.cell? ⟨0, 0, none⟩ = some (.iface 235 (.pointer (some (A 2)))) := hE.cell 2 h2
  have q1 := h.high
  by_cases hin : 0 ≤ k ∧ k < (zs.length : Int)
  · obtain ⟨k0, k1⟩ := hin
    obtain ⟨k, rfl⟩ := Int.eq_ofNat_of_zero_le k0
    have hC := Lib.hid (draw_Column_in b cb zs k w h hz (by omega))
    have hk' : a < 0 ∨ (0 ≤ a ∧ zs.sum ≤ a) := by omega
    clear h hz hk hE
    generalize ((vose zs).getD k (0, 0)).1 = x at *
    generalize ((vose zs).getD k (0, 0)).2 = y at *
    generalize zs.sum = H at *
    rcases hk' with hk' | ⟨hk', hk2⟩
    · go_enter Tryz.func115, Tryz.ntmps115
      go_wp2_with fail
      refine hC.out.mono ?_
      rintro e w' ⟨rfl, n, rfl⟩
      go_wp2_with fail
      go_quiet (fail)
      go_wp2_with fail
      go_ret2
      exact ⟨rfl, n + nq, by simp [World.drewN, Nat.add_assoc]⟩
    · have e0 : decide (a < 0) = false := by simp; omega
      have e1 : decide (H ≤ a) = true := by simp; omega
      go_enter Tryz.func115, Tryz.ntmps115
      go_wp2_with fail
      refine hC.out.mono ?_
      rintro e w' ⟨rfl, n, rfl⟩
      go_wp2_with fail
      go_quiet (fail)
      go_wp2_with fail
      go_ret2
      exact ⟨rfl, n + nq, by simp [World.drewN, Nat.add_assoc]⟩
  · have hC := Lib.hid (draw_Column_out A S b cb zs k w h hE h2 (by omega))
    clear h hz hk hE hin
    have he : ev A 2 = .iface 235 (.pointer (some (A 2))) := rfl
    rw [he] at hC ⊢
    clear he
    go_enter Tryz.func115, Tryz.ntmps115
    go_wp2_with fail
    refine hC.out.mono ?_
    rintro e w' ⟨rfl, n, rfl⟩
    go_wp2_with fail
    go_quiet (fail)
    go_wp2_with fail
    go_ret2
    exact ⟨rfl, n + nq, by simp [World.drewN, Nat.add_assoc]⟩
end Go.Proofs.YtajnfkmkombajabGreatDoor
namespace Go.Proofs.YtajnfkmkombajabGreatDoor
open Go.RowKit

/-- the state, one lot on -/
def lotAdv (s : Int) : Int := IntKind.u64.wrap (s + 11400714819323198485)
/-- the three steps of a lot -/
def lotA (z : Int) : Int := IntKind.u64.wrap (bits BinOp.xor IntKind.u64 z (z / 1073741824) * 13787848793156543929)
def lotB (z : Int) : Int := IntKind.u64.wrap (bits BinOp.xor IntKind.u64 z (z / 134217728) * 10723151780598845931)
def lotC (z : Int) : Int := bits BinOp.xor IntKind.u64 z (z / 2147483648)
/-- the lot of a state -/
def lotOut (z : Int) : Int := lotC (lotB (lotA z))

def natA (z : Nat) : Nat := (z ^^^ z / 1073741824) * 13787848793156543929 % 18446744073709551616
def natB (z : Nat) : Nat := (z ^^^ z / 134217728) * 10723151780598845931 % 18446744073709551616
def natC (z : Nat) : Nat := z ^^^ z / 2147483648
theorem lotA_nat (z : Nat) (h : z < 18446744073709551616) : lotA (z : Int) = (natA z : Int) := mixStep_u64 z 1073741824 13787848793156543929 h
theorem lotB_nat (z : Nat) (h : z < 18446744073709551616) : lotB (z : Int) = (natB z : Int) := mixStep_u64 z 134217728 10723151780598845931 h
theorem lotC_nat (z : Nat) (h : z < 18446744073709551616) : lotC (z : Int) = (natC z : Int) := xorShift_u64 z 2147483648 h
theorem natA_lt (z : Nat) : natA z < 18446744073709551616 := Nat.mod_lt _ (by decide)
theorem natB_lt (z : Nat) : natB z < 18446744073709551616 := Nat.mod_lt _ (by decide)

def lotN (z : Nat) : Nat := natC (natB (natA z))
theorem lotOut_nat (z : Nat) (h : z < 18446744073709551616) : lotOut (z : Int) = (lotN z : Int) := by
  unfold lotOut lotN
  rw [lotA_nat z h, lotB_nat _ (natA_lt z), lotC_nat _ (natB_lt _)]

theorem xorshift_inj (k : Nat) (hk : 0 < k) {x y : Nat} (hx : x < 2 ^ 64) (hy : y < 2 ^ 64) (h : x ^^^ x / 2 ^ k = y ^^^ y / 2 ^ k) : x = y := by
  have key : ∀ n i, 64 ≤ i + n → x.testBit i = y.testBit i := by
    intro n
    induction n with
    | zero =>
      intro i hi
      rw [Nat.testBit_lt_two_pow (Nat.lt_of_lt_of_le hx (Nat.pow_le_pow_right (by decide) (by omega))), Nat.testBit_lt_two_pow (Nat.lt_of_lt_of_le hy (Nat.pow_le_pow_right (by decide) (by omega)))]
    | succ n ih =>
      intro i hi
      have h1 := congrArg (fun t => Nat.testBit t i) h
      simp only [Nat.testBit_xor, Nat.testBit_div_two_pow] at h1
      have h2 := ih (i + k) (by omega)
      rw [h2] at h1
      simpa using h1
  exact Nat.eq_of_testBit_eq fun i => key 64 i (by omega)

theorem mulmod_inj (c d m : Nat) (hcd : c * d % m = 1 % m) {x y : Nat} (hx : x < m) (hy : y < m) (h : x * c % m = y * c % m) : x = y := by
  have e : ∀ z, z < m → (z * c % m) * d % m = z := by
    intro z hz
    rw [Nat.mod_mul_mod, Nat.mul_assoc, Nat.mul_mod, hcd, ← Nat.mul_mod, Nat.mul_one, Nat.mod_eq_of_lt hz]
  rw [← e x hx, ← e y hy, h]

theorem p64 : (2 : Nat) ^ 64 = 18446744073709551616 := by decide
theorem p30 : (2 : Nat) ^ 30 = 1073741824 := by decide
theorem p27 : (2 : Nat) ^ 27 = 134217728 := by decide
theorem p31 : (2 : Nat) ^ 31 = 2147483648 := by decide
theorem xor_lt (z k : Nat) (hz : z < 18446744073709551616) : z ^^^ z / k < 18446744073709551616 := by
  rw [← p64] at *
  exact Nat.xor_lt_two_pow hz (Nat.lt_of_le_of_lt (Nat.div_le_self _ _) hz)
theorem inv1 : (13787848793156543929 : Nat) * 10871156337175269513 % 18446744073709551616 = 1 % 18446744073709551616 := by decide
theorem inv2 : (10723151780598845931 : Nat) * 3573116690164977347 % 18446744073709551616 = 1 % 18446744073709551616 := by decide
theorem natA_inj {x y : Nat} (hx : x < 18446744073709551616) (hy : y < 18446744073709551616) (h : natA x = natA y) : x = y :=
  xorshift_inj 30 (by decide) (by rw [p64]; exact hx) (by rw [p64]; exact hy) (by rw [p30]; exact mulmod_inj _ _ _ inv1 (xor_lt _ _ hx) (xor_lt _ _ hy) h)
theorem natB_inj {x y : Nat} (hx : x < 18446744073709551616) (hy : y < 18446744073709551616) (h : natB x = natB y) : x = y :=
  xorshift_inj 27 (by decide) (by rw [p64]; exact hx) (by rw [p64]; exact hy) (by rw [p27]; exact mulmod_inj _ _ _ inv2 (xor_lt _ _ hx) (xor_lt _ _ hy) h)
theorem natC_inj {x y : Nat} (hx : x < 18446744073709551616) (hy : y < 18446744073709551616) (h : natC x = natC y) : x = y :=
  xorshift_inj 31 (by decide) (by rw [p64]; exact hx) (by rw [p64]; exact hy) (by rw [p31]; exact h)
theorem lotN_inj {x y : Nat} (hx : x < 18446744073709551616) (hy : y < 18446744073709551616) (h : lotN x = lotN y) : x = y :=
  natA_inj hx hy (natB_inj (natA_lt _) (natA_lt _) (natC_inj (natB_lt _) (natB_lt _) h))

theorem lotAdv_nat (s : Nat) : lotAdv (s : Int) = ((s + 11400714819323198485) % 18446744073709551616 : Nat) := by
  unfold lotAdv; rw [IntKind.wrap_u64]; omega

/-- the state after k lots -/
def lotSt (s : Nat) (k : Nat) : Nat := (s + k * 11400714819323198485) % 18446744073709551616
theorem lotSt_lt (s k : Nat) : lotSt s k < 18446744073709551616 := Nat.mod_lt _ (by decide)
theorem lotSt_succ (s k : Nat) : lotAdv (lotSt s k : Int) = (lotSt s (k + 1) : Int) := by
  rw [lotAdv_nat]; unfold lotSt; omega
theorem inv3 : (11400714819323198485 : Nat) * 17428512612931826493 % 18446744073709551616 = 1 % 18446744073709551616 := by decide
theorem addmod_inj {s a b : Nat} (h : (s + a) % 18446744073709551616 = (s + b) % 18446744073709551616) : a % 18446744073709551616 = b % 18446744073709551616 := by omega
theorem lotSt_ne {s j k : Nat} (hj : j < k) (hk : k < 1000) : lotSt s j ≠ lotSt s k := by
  intro h
  have := mulmod_inj _ _ _ inv3 (x := j) (y := k) (by omega) (by omega) (addmod_inj h)
  omega

/-- lots of one seed are all different -/
theorem lots_apart {s j k : Nat} (hj : j < k) (hk : k < 1000) : lotOut (lotSt s j : Int) ≠ lotOut (lotSt s k : Int) := by
  rw [lotOut_nat _ (lotSt_lt _ _), lotOut_nat _ (lotSt_lt _ _)]
  intro h
  exact lotSt_ne hj hk (lotN_inj (lotSt_lt _ _) (lotSt_lt _ _) (by exact_mod_cast h))

/-- the first k lots of a seed -/
def lotZs (s k : Nat) : List Int := (List.range k).map fun j => lotOut (lotSt s (j + 1) : Int)
theorem lotZs_length (s k : Nat) : (lotZs s k).length = k := by simp [lotZs]
theorem lotZs_succ (s k : Nat) : lotZs s (k + 1) = lotZs s k ++ [lotOut (lotSt s (k + 1) : Int)] := by simp [lotZs, List.range_succ]
theorem lotZs_ne {s j k : Nat} (hj : j < k) (hk : k < 900) : ((lotZs s k).getD j 0 == lotOut (lotSt s (k + 1) : Int)) = false := by
  have e : (lotZs s k).getD j 0 = lotOut (lotSt s (j + 1) : Int) := by simp [lotZs, hj]
  rw [e]; exact beq_eq_false_iff_ne.2 (lots_apart (by omega) (by omega))
theorem lotSt_zero {s : Nat} (h : s < 18446744073709551616) : lotSt s 0 = s := by unfold lotSt; omega

/-- one number mixed into a seed -/
def mix1 (s n : Int) : Int := lotOut (lotAdv (bits BinOp.xor IntKind.u64 s (IntKind.u64.wrap n)))
def mixL (s : Int) (l : List Int) : Int := l.foldl mix1 s
theorem mixL_append (s : Int) (a b : List Int) : mixL (mixL s a) b = mixL s (a ++ b) := by simp [mixL]
theorem mixL_snoc (s : Int) (a : List Int) (n : Int) : mixL s (a ++ [n]) = mix1 (mixL s a) n := by simp [mixL]
theorem lot_first : lotOut (lotAdv 0) = 16294208416658607535 := by decide +kernel
end Go.Proofs.YtajnfkmkombajabGreatDoor
namespace Go.Proofs.YtajnfkmkombajabGreatDoor
open Go.RowKit

theorem Tryz.infoInt : (Tryz.prog.info? 3).map (fun i => (i.zero, i.size, i.bytes)) = some (some (.int .i64 0), 1, 8) := by kernel_rfl

/-- what OwnInts leaves: a slice of the call's own that reads as the numbers that were handed in -/
def OwnedInts (W : World) (len : Nat) (zs : List Int) (e : Ending) (w' : World) : Prop := ∃ ao cap, e = .returned (.slice ao len cap) ∧ w'.ownsRow W.heap.size 3 1 (.slice ao len cap) len (zs.map (Value.int .i64)) ∧ Below W.heap.size W w'

end Go.Proofs.YtajnfkmkombajabGreatDoor
namespace Go.Proofs.YtajnfkmkombajabGreatDoor
open Go.RowKit

theorem lots_New (s : Int) (w : World) :
    Calls Tryz.prog 110 #[.int .u64 s] w fun e w' => e = .returned (.pointer (some ⟨w.heap.size, 0, none⟩)) ∧ w.alloc (.cells #[.int .u64 s] 180) = w' := by
  go_enter Tryz.func110, Tryz.ntmps110
  go_wp2
  go_ret
  exact ⟨rfl, rfl⟩

theorem lots_Next (b : Nat) (s : Int) (w : World) (hc : w.cell? ⟨b, 0, none⟩ = some (.int .u64 s)) (hf : w.frozen? ⟨b, 0, none⟩ = false) :
    Calls Tryz.prog 132 #[.pointer (some ⟨b, 0, none⟩)] w fun e w' => e = .returned (.int .u64 (lotOut (lotAdv s))) ∧ w.setCell ⟨b, 0, none⟩ (.int .u64 (lotAdv s)) = w' := by
  go_enter Tryz.func132, Tryz.ntmps132
  go_wp2
  go_ret
  exact ⟨rfl, rfl⟩

theorem lots_Next_new (s : Int) (w : World) :
    Calls Tryz.prog 132 #[.pointer (some ⟨w.heap.size, 0, none⟩)] (w.alloc (.cells #[.int .u64 s] 180)) fun e w' => e = .returned (.int .u64 (lotOut (lotAdv s))) ∧ w.alloc (.cells #[.int .u64 (lotAdv s)] 180) = w' :=
  (lots_Next w.heap.size s _ (by simp) (by simp)).mono fun e w' ⟨he, hw⟩ => ⟨he, by rw [← hw, World.setCell_alloc_new]; rfl⟩

theorem lots_Mix (s : Int) (ao : Option Addr) (len cap : Nat) (zs : List Int) (w : World) (R : RdI .i64 w ao len cap zs) :
    Calls Tryz.prog 111 #[.int .u64 s, .slice ao len cap] w fun e w' => e = .returned (.int .u64 (mixL s zs)) ∧ Below w.heap.size w w' := by
  have hlen := R.size
  have hm : len ≤ 9223372036854775807 := by have := R.lc; have := R.cm; unfold maxLen at *; omega
  rcases R.split with ⟨rfl, rfl⟩ | ⟨h0, b, off, rfl, hb, hcell⟩
  · go_enter Tryz.func111, Tryz.ntmps111
    go_wp2
    refine wp_loop_rounds 1 ?_
    rw [rounds_succ]
    go_wp2
    go_ret
    exact ⟨rfl, Below.refl _ _⟩
  · have Hl := Lib.hid hlen; clear hlen R
    have Hc := Lib.hid hcell; clear hcell
    go_enter Tryz.func111, Tryz.ntmps111
    go_wp2_with fail
    go_loopw [0, 9] (fun t i wr => ∃ k : Nat, k ≤ len ∧ i = .int .i64 k ∧ t = .int .u64 (mixL s (zs.take k)) ∧ Below w.heap.size w wr) (fun _ i _ => len - (intOf i).toNat)
    case atStart => exact ⟨0, Nat.zero_le _, rfl, rfl, Below.refl _ _⟩
    case round =>
      obtain ⟨k, hk, rfl, rfl, hbel⟩ := hrel
      by_cases hlt : k < len
      · have hck : wr.cell? ⟨b, off + k, none⟩ = some (.int .i64 (zs.getD k 0)) := by rw [hbel.cell (p := ⟨b, off + k, none⟩) hb]; exact Hc.out k hlt
        have hts : mixL s (zs.take (k + 1)) = mix1 (mixL s (zs.take k)) (zs.getD k 0) := by
          rw [List.take_succ_eq_append_getElem (by rw [Hl.out]; exact hlt), mixL_snoc]; simp [Hl.out, hlt]
        have Ht := Lib.hid hts; clear hts
        generalize zs.getD k 0 = z at *
        go_wp2_with (first | (go_at_call 110; refine (lots_New _ _).mono ?_; rintro e w' ⟨rfl, rfl⟩) | (go_at_call 132; refine (lots_Next_new _ _).mono ?_; rintro e w' ⟨rfl, rfl⟩))
        go_roundw
        case rel => exact ⟨k + 1, by omega, by go_num, by rw [Ht.out]; rfl, hbel.alloc hbel.size _⟩
        case measure => simp [intOf]; omega
      · go_wp2
        go_ret
        exact ⟨by rw [List.take_of_length_le (by rw [Hl.out]; omega)]; rfl, hbel⟩

end Go.Proofs.YtajnfkmkombajabGreatDoor
namespace Go.Proofs.YtajnfkmkombajabGreatDoor
open Go.RowKit

/-- half of the j-th lot of a seed -/
def lotHalf (s j : Nat) : Nat := lotN (lotSt s j) / 2
def endB (n : Nat) : Nat := 9223372036854775808 / n * n
theorem endB_pos {n : Nat} (h0 : 1 ≤ n) (h1 : n ≤ 1125899906842624) : 0 < endB n :=
  Nat.mul_pos (Nat.div_pos (by omega) h0) h0
theorem endB_le (n : Nat) : endB n ≤ 9223372036854775808 := Nat.div_mul_le_self _ _

theorem lotN_zero : lotN 0 = 0 := by decide
theorem lot_nought {s : Nat} (hs : s < 18446744073709551616) : ∃ j, 1 ≤ j ∧ lotSt s j = 0 := by
  refine ⟨(18446744073709551616 - s) * 17428512612931826493, Nat.mul_pos (by omega) (by decide), ?_⟩
  unfold lotSt
  obtain ⟨t, ht⟩ : ∃ t, t = 18446744073709551616 - s := ⟨_, rfl⟩
  have : s = 18446744073709551616 - t := by omega
  have hts : t ≤ 18446744073709551616 := by omega
  rw [← ht, this, Nat.mul_assoc]
  obtain ⟨q, hq⟩ : ∃ q : Nat, (17428512612931826493 : Nat) * 11400714819323198485 = q * 18446744073709551616 + 1 := ⟨17428512612931826493 * 11400714819323198485 / 18446744073709551616, by decide⟩
  rw [hq, Nat.mul_add, Nat.mul_one, ← Nat.mul_assoc, Nat.add_comm (t * q * 18446744073709551616), ← Nat.add_assoc, Nat.add_mul_mod_self_right]
  omega

theorem first_of {P : Nat → Prop} [DecidablePred P] : ∀ m, P m → ∃ j, P j ∧ ∀ i, i < j → ¬ P i := by
  intro m
  induction m using Nat.strongRecOn with
  | ind m ih =>
    intro hm
    by_cases h : ∃ i, i < m ∧ P i
    · obtain ⟨i, hi, hp⟩ := h; exact ih i hi hp
    · exact ⟨m, hm, fun i hi hp => h ⟨i, hi, hp⟩⟩

/-- J is the first lot that serves for numbers below n -/
structure FirstLot (s n J : Nat) : Prop where
  one : 1 ≤ J
  fits : lotHalf s J < endB n
  first : ∀ i, 1 ≤ i → i < J → endB n ≤ lotHalf s i

theorem firstLot_ex {s n : Nat} (hs : s < 18446744073709551616) (h0 : 1 ≤ n) (h1 : n ≤ 1125899906842624) : ∃ J, FirstLot s n J := by
  obtain ⟨m, hm1, hm⟩ := lot_nought hs
  obtain ⟨j, hj, hi⟩ := first_of (P := fun j => lotHalf s (j + 1) < endB n) (m - 1) (by
    show lotHalf s (m - 1 + 1) < endB n
    rw [show m - 1 + 1 = m by omega]; unfold lotHalf; rw [hm, lotN_zero]; exact endB_pos h0 h1)
  exact ⟨j + 1, by omega, hj, fun i h1 h2 => Nat.le_of_not_lt (by have := hi (i - 1) (by omega); rw [show i - 1 + 1 = i by omega] at this; exact this)⟩
theorem FirstLot.unique {s n J K : Nat} (h : FirstLot s n J) (k : FirstLot s n K) : J = K := by
  rcases Nat.lt_trichotomy J K with hl | hl | hl
  · have := k.first J h.one hl; have := h.fits; omega
  · exact hl
  · have := h.first K k.one hl; have := k.fits; omega

open Classical in
/-- how many lots it takes -/
noncomputable def firstLot (s n : Nat) : Nat := if h : ∃ J, FirstLot s n J then Classical.choose h else 0
theorem firstLot_is {s n : Nat} (hs : s < 18446744073709551616) (h0 : 1 ≤ n) (h1 : n ≤ 1125899906842624) : FirstLot s n (firstLot s n) := by
  have h := firstLot_ex hs h0 h1
  unfold firstLot; rw [dif_pos h]; exact Classical.choose_spec h
/-- the number that is told -/
noncomputable def belowN (s n : Nat) : Nat := lotHalf s (firstLot s n) % n
/-- the state behind it -/
noncomputable def belowS (s n : Nat) : Nat := lotSt s (firstLot s n)
theorem belowS_lt (s n : Nat) : belowS s n < 18446744073709551616 := lotSt_lt _ _
theorem belowN_lt {s n : Nat} (h : 1 ≤ n) : belowN s n < n := Nat.mod_lt _ h
theorem lotN_lt (z : Nat) : lotN z < 18446744073709551616 := by
  unfold lotN natC; exact xor_lt _ _ (natB_lt _)
theorem lotHalf_lt (s j : Nat) : lotHalf s j < 9223372036854775808 := by
  have := lotN_lt (lotSt s j); unfold lotHalf; omega

/-- the document's test: the stretch of n in which a lot lies is whole -/
theorem whole_stretch {n z : Nat} (h0 : 1 ≤ n) (h1 : n ≤ 1125899906842624) (hz : z < 9223372036854775808) : (z - z % n ≤ 9223372036854775807 - n + 1) ↔ z < endB n := by
  have hm : z % n + n * (z / n) = z := Nat.mod_add_div z n
  unfold endB
  obtain ⟨q, hq⟩ : ∃ q, q = z / n := ⟨_, rfl⟩
  obtain ⟨r, hr⟩ : ∃ r, r = z % n := ⟨_, rfl⟩
  have hrn : r < n := by rw [hr]; exact Nat.mod_lt _ h0
  rw [← hq, ← hr] at hm
  have e : z - r = n * q := by omega
  rw [← hr, e]
  have hiff : q + 1 ≤ 9223372036854775808 / n ↔ (q + 1) * n ≤ 9223372036854775808 := Nat.le_div_iff_mul_le h0
  rw [Nat.add_mul, Nat.mul_comm q n, Nat.one_mul] at hiff
  constructor
  · intro h
    have h2 : q + 1 ≤ 9223372036854775808 / n := hiff.2 (by omega)
    have h3 : (q + 1) * n ≤ 9223372036854775808 / n * n := Nat.mul_le_mul_right n h2
    rw [Nat.add_mul, Nat.mul_comm q n, Nat.one_mul] at h3
    omega
  · intro h
    have h2 : q + 1 ≤ 9223372036854775808 / n := by
      apply Decidable.byContradiction
      intro hn
      have h3 : 9223372036854775808 / n ≤ q := by omega
      have h4 : 9223372036854775808 / n * n ≤ q * n := Nat.mul_le_mul_right n h3
      rw [Nat.mul_comm q n] at h4
      omega
    have := hiff.1 h2
    omega
end Go.Proofs.YtajnfkmkombajabGreatDoor
namespace Go.Proofs.YtajnfkmkombajabGreatDoor
open Go.RowKit

theorem end_int (n : Nat) : (9223372036854775808 : Int) / (n : Int) * (n : Int) = (endB n : Int) := by
  unfold endB; rw [Int.natCast_mul, Int.natCast_ediv]; rfl
theorem end_wrap (n : Nat) : IntKind.u64.wrap (endB n : Int) = (endB n : Int) := by
  have := endB_le n
  rw [IntKind.wrap_u64]; omega
theorem half_int (x : Nat) : ((x : Int) / 2) = ((x / 2 : Nat) : Int) := by omega

/-- block b is lots whose state is s -/
def LotsAt (b : Nat) (s : Nat) (w : World) : Prop := RowAt b 180 [.int .u64 (s : Int)] w
theorem LotsAt.cell {b s : Nat} {w : World} (h : LotsAt b s w) : w.cell? ⟨b, 0, none⟩ = some (.int .u64 (s : Int)) := (RowAt.cell h 0).trans rfl
theorem LotsAt.frozen {b s : Nat} {w : World} (h : LotsAt b s w) : w.frozen? ⟨b, 0, none⟩ = false := RowAt.frozen h 0
theorem LotsAt.put {b s t : Nat} {w : World} (h : LotsAt b s w) : LotsAt b t (w.setCell ⟨b, 0, none⟩ (.int .u64 (t : Int))) := RowAt.set h 0 _
theorem LotsAt.keep {F : Nat → Prop} {b s : Nat} {w w' : World} (h : LotsAt b s w) (k : Keep F w w') (hF : ¬ F b) : LotsAt b s w' := RowAt.keep h k hF

theorem lots_Below_out (A : Nat → Addr) (S : List Nat) (b : Nat) (n : Int) (w : World) (hE : Errs A S w) (h2 : 2 ∈ S) (hn : n < 1 ∨ 1125899906842624 < n) :
    Calls Tryz.prog 112 #[.pointer (some ⟨b, 0, none⟩), .int .i64 n] w fun e w' => e = .returned (.tuple #[.int .i64 0, ev A 2]) ∧ Dr w w' := by
  have g2 : w.cell? ⟨0, 0, none⟩ = some (.iface 235 (.pointer (some (A 2)))) := hE.cell 2 h2
  clear hE
  by_cases h0 : n < 1
  · clear hn
    go_enter Tryz.func112, Tryz.ntmps112
    go_wp2_with fail
    go_quiet (fail)
    go_wp2_with fail
    go_ret2
    exact ⟨rfl, nq, rfl⟩
  · have h1 : 1125899906842624 < n := by omega
    have e0 : decide (n < 1) = false := by simp; omega
    clear hn
    go_enter Tryz.func112, Tryz.ntmps112
    go_wp2_with fail
    go_quiet (fail)
    go_wp2_with fail
    go_ret2
    exact ⟨rfl, nq, rfl⟩

set_option maxRecDepth 8000 in
set_option maxHeartbeats 1000000 in
theorem lots_Below_in (b s n : Nat) (w : World) (hs : s < 18446744073709551616) (h0 : 1 ≤ n) (h1 : n ≤ 1125899906842624) (hl : LotsAt b s w) :
    Calls Tryz.prog 112 #[.pointer (some ⟨b, 0, none⟩), .int .i64 n] w fun e w' => e = .returned (.tuple #[.int .i64 (belowN s n), .nilIface]) ∧ Keep (· = b) w w' ∧ LotsAt b (belowS s n) w' := by
  have hF := firstLot_is hs h0 h1
  have HN := Lib.hid (show belowN s n = lotHalf s (firstLot s n) % n from rfl)
  have HS := Lib.hid (show belowS s n = lotSt s (firstLot s n) from rfl)
  have HL := Lib.hid hl
  have Hst0 := Lib.hid (lotSt_zero hs)
  generalize firstLot s n = J at *
  have HJ := Lib.hid hF
  have hJ1 := hF.one
  have i1 : (1 : Int) ≤ (n : Int) := by omega
  have i2 : (n : Int) ≤ 1125899906842624 := by omega
  have e0 : decide ((n : Int) < 1) = false := by simp; omega
  have e1 : decide ((1125899906842624 : Int) < (n : Int)) = false := by simp; omega
  have cv : IntKind.u64.wrap (n : Int) = (n : Int) := by rw [IntKind.wrap_u64]; omega
  obtain ⟨qn, hqn⟩ : ∃ qn : Nat, (9223372036854775808 : Int) / (n : Int) = (qn : Int) := ⟨9223372036854775808 / n, by rw [Int.natCast_ediv]; rfl⟩
  have hq := end_int n
  rw [hqn] at hq
  have hw := end_wrap n
  clear hF hs hl h0 h1
  go_enter Tryz.func112, Tryz.ntmps112
  go_wp2_with fail
  clear hq hw cv hqn
  go_loopg [8] J (fun g _ wr => ∃ i : Nat, g + i = J ∧ i < J ∧ LotsAt b (lotSt s i) wr ∧ Keep (· = b) w wr)
  case atStart => exact ⟨0, by omega, by omega, by rw [Hst0.out]; exact HL.out, Keep.refl _ _⟩
  case round =>
    clear HL Hst0
    obtain ⟨i, hg, hi, hl, hk⟩ := hrel
    have hG := Lib.hid hg; clear hg
    have hc := hl.cell
    have hf := hl.frozen
    have hst := lotSt_succ s i
    have hout := lotOut_nat (lotSt s (i + 1)) (lotSt_lt _ _)
    have hnew := Lib.hid (hl.put (t := lotSt s (i + 1)))
    have HK := Lib.hid (hk.put (.int .u64 (lotSt s (i + 1) : Int)) (o := 0))
    have hhalf : lotHalf s (i + 1) = lotN (lotSt s (i + 1)) / 2 := rfl
    have hzl := lotN_lt (lotSt s (i + 1))
    clear hl hk
    have H1 := Lib.hid hst; have H2 := Lib.hid hout; have H3 := Lib.hid hhalf
    clear hst hout hhalf
    have hnx := Lib.hid (lots_Next b (lotSt s i : Int) wr hc hf)
    by_cases hend : i + 1 = J
    · subst hend
      have hfit := HJ.out.fits
      rw [H3.out] at hfit
      generalize hz : lotN (lotSt s (i + 1)) = z at *
      have dl : decide ((z : Int) / 2 < (endB n : Int)) = true := decide_eq_true (by omega)
      have zb : (0 : Int) ≤ (z : Int) / 2 % (n : Int) ∧ (z : Int) / 2 % (n : Int) ≤ 1125899906842624 := ⟨Int.emod_nonneg _ (by omega), by have := Int.emod_lt_of_pos ((z : Int) / 2) (show (0 : Int) < (n : Int) by omega); omega⟩
      have cv2 : IntKind.i64.wrap ((z : Int) / 2 % (n : Int)) = (z : Int) / 2 % (n : Int) := by
        rw [IntKind.wrap_i64]; omega
      have Hval := Lib.hid (show ((z : Int) / 2 % (n : Int)) = ((z / 2 % n : Nat) : Int) by rw [half_int, Int.natCast_emod])
      have HN2 := Lib.hid (show belowN s n = z / 2 % n by rw [HN.out, H3.out])
      have HS2 := Lib.hid (show belowS s n = lotSt s (i + 1) by rw [HS.out])
      clear hz hfit hzl
      go_wp2_with fail
      refine hnx.out.mono ?_
      rintro e w' ⟨rfl, rfl⟩
      rw [H1.out, H2.out]
      go_wp2_with fail
      go_ret2
      refine ⟨?_, HK.out, by rw [HS2.out]; exact hnew.out⟩
      rw [HN2.out, ← Hval.out]
      rfl
    · have hfit := HJ.out.first (i + 1) (by omega) (by omega)
      rw [H3.out] at hfit
      generalize hz : lotN (lotSt s (i + 1)) = z at *
      have dl : decide ((z : Int) / 2 < (endB n : Int)) = false := decide_eq_false (by omega)
      clear hz hfit hzl
      go_wp2_with fail
      refine hnx.out.mono ?_
      rintro e w' ⟨rfl, rfl⟩
      rw [H1.out, H2.out]
      go_wp2_with fail
      have hg := hG.out
      go_roundg (J - (i + 1))
      case measure => omega
      case rel => exact ⟨i + 1, by omega, by omega, hnew.out, HK.out⟩
end Go.Proofs.YtajnfkmkombajabGreatDoor
