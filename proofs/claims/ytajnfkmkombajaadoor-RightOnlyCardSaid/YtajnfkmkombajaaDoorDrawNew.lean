/- Contracts of package draw: New. -/
import Derived.Test.YtajnfkmkombajaaDoorFillW
import Derived.Test.YtajnfkmkombajaaDoorErrIs
set_option linter.unusedVariables false
set_option linter.unusedSimpArgs false
namespace Go.Proofs.YtajnfkmkombajaaDoor
open Go.RowKit

/-- what is wrong with weights: an error's number, and its place -/
def weightsF (zs : List Int) : Nat × Int := if zs.length < 1 ∨ 64 < zs.length then (3, -1) else if 0 ≤ firstBad zs then (2, firstBad zs) else if zs.sum = 0 then (4, -1) else (0, -1)

/-- blocks b and cb are a draw of the weights zs -/
structure DrawAt (b cb : Nat) (zs : List Int) (w : World) : Prop where
  d : RowAt b 92 [.int .i64 zs.sum, .slice (some ⟨cb, 0, none⟩) zs.length zs.length] w
  c : RowAt cb 95 (colVs (vose zs)) w

def NewPost (A : Nat → Addr) (zs : List Int) (w : World) (e : Ending) (w' : World) : Prop :=
  ∃ p v, e = .returned (.tuple #[p, v]) ∧ ErrIs A w w' v (weightsF zs) ∧ Below w.heap.size w w' ∧
    (((weightsF zs).1 ≠ 0 ∧ p = .pointer none) ∨ ((weightsF zs).1 = 0 ∧ ∃ b cb, p = .pointer (some ⟨b, 0, none⟩) ∧ w.heap.size ≤ b ∧ w.heap.size ≤ cb ∧ DrawAt b cb zs w'))

theorem make_cols (n : Nat) (hn : n ≤ 1000000) (w : World) : (Instr.makeSlice 90 (.int .i64 (n : Int)) (.int .i64 (n : Int))).run Tryd.prog w = .ok (.slice (some ⟨w.heap.size, 0, none⟩) n n) (w.alloc (.cells (zeroVs (n * 2)).toArray 95)) := by
  obtain ⟨i0, hi, hz0, hz1, hz2⟩ := info_parts (show (Tryd.prog.info? 95).map (fun i => (i.zero, i.size, i.bytes)) = some (some (.agg #[.int .i64 0, .int .i64 0]), 2, 16) by kernel_rfl)
  have hr := run_make (P := Tryd.prog) w 90 95 i0 _ Tryd.underlying90 hi hz0 .i64 .i64 n n (by omega) (Int.le_refl _) (by rw [hz2]; omega) (by omega)
  rw [← made_two]
  simpa [hz1, Value.cells] using hr

theorem bad_pos (zs : List Int) (h : ¬ 0 ≤ firstBad zs) : ∀ x ∈ zs, 0 ≤ x ∧ x ≤ 1073741824 := by
  intro x hx
  obtain ⟨i, hi⟩ := List.getElem?_of_mem hx
  have hn : ¬ zs.findIdx badW < zs.length := by
    intro hlt; apply h; unfold firstBad; rw [if_pos hlt]; omega
  have hall : ∀ y ∈ zs, badW y = false := by
    intro y hy
    have := List.findIdx_eq_length.1 (show zs.findIdx badW = zs.length by have := List.findIdx_le_length (p := badW) (xs := zs); omega)
    simpa using this y hy
  have := hall x hx
  simp [badW] at this
  omega
theorem sum_bds {zs : List Int} (hz : ∀ x ∈ zs, 0 ≤ x ∧ x ≤ 1073741824) : 0 ≤ zs.sum ∧ zs.sum ≤ 1073741824 * (zs.length : Int) := by
  induction zs with
  | nil => simp
  | cons a l ih =>
    have h1 := ih (fun x hx => hz x (by simp [hx])); have h2 := hz a (by simp)
    simp only [List.sum_cons, List.length_cons]; omega
theorem zero_cols (n : Nat) : zeroVs (n * 2) = colVs (List.replicate n (0, 0)) := by
  induction n with
  | zero => rfl
  | succ n ih =>
    rw [List.replicate_succ, show (n + 1) * 2 = n * 2 + 1 + 1 by omega]
    simp only [zeroVs, colVs, List.replicate_succ, List.map_cons, List.flatMap_cons] at ih ⊢
    rw [ih]; rfl

set_option maxRecDepth 8000 in
set_option maxHeartbeats 1000000 in
theorem draw_New (A : Nat → Addr) (S : List Nat) (ao : Option Addr) (cap : Nat) (zs : List Int) (w : World) (R : RdI .i64 w ao zs.length cap zs) (hE : Errs A S w) (h2 : 2 ∈ S) (h3 : 3 ∈ S) (h4 : 4 ∈ S) :
    Calls Tryd.prog 25 #[.slice ao zs.length cap] w (NewPost A zs w) := by
  have g2 : w.cell? ⟨1, 0, none⟩ = some (.iface 111 (.pointer (some (A 2)))) := hE.cell 2 h2
  have g3 : w.cell? ⟨2, 0, none⟩ = some (.iface 111 (.pointer (some (A 3)))) := hE.cell 3 h3
  have HR := Lib.hid R
  have HE := Lib.hid hE; clear hE
  by_cases hlen : zs.length < 1 ∨ 64 < zs.length
  · have HW := Lib.hid (show weightsF zs = (3, -1) from if_pos hlen)
    clear R
    by_cases h1 : zs.length < 1
    · have e1 : decide ((zs.length : Int) < 1) = true := by simp; omega
      clear hlen
      generalize hn : zs.length = n at *
      go_enter Tryd.func25, Tryd.ntmps25
      go_wp2_with fail
      go_quiet (fail)
      go_wp2_with fail
      go_ret2
      exact ⟨_, _, rfl, by rw [HW.out]; exact .inl ⟨rfl, rfl⟩, (Below.refl _ _).drewN _, .inl ⟨by rw [HW.out]; simp, rfl⟩⟩
    · have e1 : decide ((zs.length : Int) < 1) = false := by simp; omega
      have e2 : decide ((64 : Int) < (zs.length : Int)) = true := by simp; omega
      clear hlen
      generalize hn : zs.length = n at *
      go_enter Tryd.func25, Tryd.ntmps25
      go_wp2_with fail
      go_quiet (fail)
      go_wp2_with fail
      go_ret2
      exact ⟨_, _, rfl, by rw [HW.out]; exact .inl ⟨rfl, rfl⟩, (Below.refl _ _).drewN _, .inl ⟨by rw [HW.out]; simp, rfl⟩⟩
  · have e1 : decide ((zs.length : Int) < 1) = false := by simp; omega
    have e2 : decide ((64 : Int) < (zs.length : Int)) = false := by simp; omega
    clear R
    by_cases hbad : 0 ≤ firstBad zs
    · have HW := Lib.hid (show weightsF zs = (2, firstBad zs) by unfold weightsF; rw [if_neg hlen, if_pos hbad])
      clear hlen
      generalize hn : zs.length = n at *
      have HN := Lib.hid hn; clear hn
      go_enter Tryd.func25, Tryd.ntmps25
      go_wp2_with fail
      refine (slices_IndexFunc _ _ _ _ _ HR.out).mono ?_
      rintro e w' ⟨rfl, rfl⟩
      generalize hfb : firstBad zs = fb at *
      have HFB := Lib.hid hfb; clear hfb
      go_wp2_with fail
      go_region
      all_goals go_wp2_with fail
      all_goals go_ret2
      all_goals exact ⟨_, _, rfl, by rw [HW.out]; exact .inr ⟨hbad, w.heap.size, Nat.le_refl _, rfl, by simp, by simp; rfl⟩, ((Below.refl _ _).alloc (Nat.le_refl _) _).drew, .inl ⟨by rw [HW.out]; simp, rfl⟩⟩
    · have hz := bad_pos zs hbad
      have hfb : firstBad zs = -1 := by unfold firstBad at hbad ⊢; split <;> rename_i hh <;> simp_all
      have hsb := sum_bds hz
      have hW : weightsF zs = if zs.sum = 0 then (4, -1) else (0, -1) := by unfold weightsF; rw [if_neg hlen, if_neg hbad]
      have htk : ∀ k, k < zs.length → 0 ≤ (zs.take k).sum ∧ (zs.take k).sum ≤ 68719476736 := by
        intro k hk
        have h := sum_bds (zs := zs.take k) (fun x hx => hz x (List.mem_of_mem_take hx))
        rw [List.length_take] at h
        omega
      have hts : ∀ k, k < zs.length → (zs.take (k + 1)).sum = (zs.take k).sum + zs.getD k 0 := by
        intro k hk
        rw [List.take_succ_eq_append_getElem hk, List.sum_append]
        simp [hk]
      have hmk := make_cols zs.length (by omega)
      have HFB := Lib.hid hfb
      have HW := Lib.hid hW; have HZ := Lib.hid hz; have HT := Lib.hid htk; have HS := Lib.hid hts
      have hl1 : 0 < zs.length := by omega
      have hl2 : zs.length ≤ 64 := by omega
      have hs0 : 0 ≤ zs.sum := hsb.1
      have hs1 : zs.sum ≤ 68719476736 := by have := hsb.2; omega
      clear hlen hbad hz hfb hsb hW htk hts
      obtain ⟨_, wb, off, ha, hwb, hcell0⟩ := (HR.out.split).resolve_left (by omega)
      clear hcell0
      have Ha := Lib.hid ha; clear ha
      have := Ha.out; subst this
      have HFill := Lib.hid (fun b cb wx => draw_fill w (some ⟨wb, off, none⟩) cap zs b cb wx HR.out)
      have hg4 : w.cell? ⟨3, 0, none⟩ = some (.iface 111 (.pointer (some (A 4)))) := HE.out.cell 4 h4
      have g4 := Lib.hid hg4; clear hg4 g2 g3
      generalize hn : zs.length = n at *
      have HN := Lib.hid hn; clear hn
      generalize hH : zs.sum = H at *
      have HHs := Lib.hid hH; clear hH
      go_enter Tryd.func25, Tryd.ntmps25
      go_wp2_with fail
      refine (slices_IndexFunc _ _ _ _ _ HR.out).mono ?_
      rintro e w' ⟨rfl, rfl⟩
      rw [HFB.out]
      go_wp2_with fail
      go_loopg [33] n (fun g i wr => ∃ k : Nat, g + k = n ∧ i = .int .i64 k ∧ Below w.heap.size w wr ∧ RowAt w.heap.size 95 (colVs (List.replicate n (0, 0))) wr ∧ RowAt (w.heap.size + 1) 92 [.int .i64 (zs.take k).sum, .slice (some ⟨w.heap.size, 0, none⟩) n n] wr)
      case atStart =>
        refine ⟨0, rfl, rfl, ((Below.refl _ _).alloc (Nat.le_refl _) _).alloc (by simp) _, ?_, ?_⟩
        · rw [← zero_cols]
          exact (RowAt.new w 95 (zeroVs (n * 2))).alloc _
        · have := RowAt.new (w.alloc (.cells (zeroVs (n * 2)).toArray 95)) 92 [.int .i64 0, .slice (some ⟨w.heap.size, 0, none⟩) n n]
          simpa using this
      case round =>
        obtain ⟨k, hg, rfl, hb, hc, hd⟩ := hrel
        have hG := Lib.hid hg; clear hg
        clear hmk
        have q1 : wr.cell? ⟨w.heap.size + 1, 0, none⟩ = some (.int .i64 (zs.take k).sum) := by rw [hd.cell]; rfl
        have q2 := hd.frozen 0
        have hsz := hb.size
        by_cases hlt : k < n
        · obtain ⟨b', off', ha', hcz⟩ := (HR.out.below hb).cells k hlt
          cases ha'
          have hts := HS.out k hlt
          have hzk : zs.getD k 0 ∈ zs := by rw [List.getD_eq_getElem?_getD, List.getElem?_eq_getElem (by rw [HN.out]; exact hlt)]; exact List.getElem_mem _
          have hzb := HZ.out _ hzk
          have htb := HT.out k hlt
          have hnew := hd.set 0 (.int .i64 ((zs.take k).sum + zs.getD k 0))
          rw [← hts] at hnew
          have HB := Lib.hid hb; have HC := Lib.hid hc; have HNew := Lib.hid hnew; have HTS := Lib.hid hts
          clear hb hc hd hnew hts hzk
          generalize zs.getD k 0 = z at *
          generalize (zs.take k).sum = t at *
          go_wp2_with fail
          have hg := hG.out
          go_roundg (n - (k + 1))
          case measure => omega
          case rel => exact ⟨k + 1, by omega, by go_num, HB.out.setCell (by simp only; omega) _, HC.out.set_other (by simp only; omega) _, by have := HNew.out; rw [HTS.out] at this ⊢; exact this⟩
        · have hall : zs.take k = zs := List.take_of_length_le (by rw [HN.out]; omega)
          rw [hall, HHs.out] at hd q1
          have g4' := g4.out
          rw [← hb.cell (p := ⟨3, 0, none⟩) (World.block_lt_of_cell? _ _ g4')] at g4'
          have HB := Lib.hid hb; have HC := Lib.hid hc; have HD := Lib.hid hd
          clear hall hb hc hd
          by_cases hz : H = 0
          · have hW := HW.out
            rw [if_pos hz] at hW
            have HW2 := Lib.hid hW; clear hW
            subst hz
            go_wp2_with fail
            go_quiet (fail)
            go_wp2_with fail
            go_ret2
            exact ⟨_, _, rfl, by rw [HW2.out]; exact .inl ⟨rfl, rfl⟩, HB.out.drewN _, .inl ⟨by rw [HW2.out]; simp, rfl⟩⟩
          · have hW := HW.out
            rw [if_neg hz] at hW
            have HW2 := Lib.hid hW; clear hW
            have hz' : (H == 0) = false := by simpa using hz
            clear hz
            go_wp2_with fail
            refine (HFill.out (w.heap.size + 1) w.heap.size _ HB.out (by omega) (Nat.le_refl _) (by omega) HD.out HC.out hl1 hl2 HZ.out hs0 hs1).mono ?_
            rintro e w2 ⟨rfl, b2, d2, c2⟩
            have HB2 := Lib.hid b2; have HC2 := Lib.hid c2; have HD2 := Lib.hid d2
            clear b2 c2 d2
            go_wp2_with fail
            go_ret2
            refine ⟨_, _, rfl, by rw [HW2.out]; exact .inl ⟨rfl, rfl⟩, HB2.out, .inr ⟨by rw [HW2.out], w.heap.size + 1, w.heap.size, rfl, by omega, Nat.le_refl _, ⟨?_, HC2.out⟩⟩⟩
            rw [HN.out, HHs.out]; exact HD2.out
end Go.Proofs.YtajnfkmkombajaaDoor
