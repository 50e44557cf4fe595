/- The walk of Names. -/
import Derived.Test.YtajnfkmkombajaaDoorOther
import Derived.Sort.LoopGhostIn
set_option linter.unusedVariables false
set_option linter.unusedSimpArgs false
namespace Go.Proofs.YtajnfkmkombajaaDoor
open Go.RowKit

def nameNums : List Int := [6, 3, 1125899906842624, 8, 4, 2, 2, 100, 8, 1048576, 3000, 100, 16]

set_option maxHeartbeats 1000000 in
set_option maxRecDepth 8000 in
theorem names_walk (A : Nat → Addr) (w : World) (hS : Sents A w) :
    Calls Tryd.prog 10 #[] w fun e w' => e = .returned (.bool true) ∧ Below w.heap.size w w' := by
  have HS := Lib.hid hS; clear hS
  go_enter Tryd.func10, Tryd.ntmps10
  go_wp2_with fail
  have V : (w.alloc (.cells (nameNums.map (Value.int .i64)).toArray 3)).heap.size = w.heap.size + 1 := by simp
  have R1 := RdI.of_rowAt (k := .i64) (zs := nameNums) (by have := (RowAt.new w 3 (nameNums.map (Value.int .i64))).alloc (.cells (nameNums.map (Value.int .i64)).toArray 3); simpa using this) (by unfold maxLen; decide)
  have R2 := RdI.of_rowAt (k := .i64) (zs := nameNums) (RowAt.new (w.alloc (.cells (nameNums.map (Value.int .i64)).toArray 3)) 3 (nameNums.map (Value.int .i64))) (by unfold maxLen; decide)
  rw [V] at R2
  refine (ref_SameInts _ _ _ _ _ nameNums _ R1 R2).mono ?_
  rintro e w1 ⟨rfl, d, rfl⟩
  clear R1 R2 V
  have b1 : Below w.heap.size w ((((w.alloc (.cells (nameNums.map (Value.int .i64)).toArray 3)).alloc (.cells (nameNums.map (Value.int .i64)).toArray 3))).drewN d) := (((Below.refl _ _).alloc (Nat.le_refl _) _).alloc (by simp) _).drewN _
  generalize (((w.alloc (.cells (nameNums.map (Value.int .i64)).toArray 3)).alloc (.cells (nameNums.map (Value.int .i64)).toArray 3))).drewN d = w1 at *
  have S1 := HS.out.below b1
  have g1 : w1.cell? ⟨0, 0, none⟩ = some (.iface 111 (.pointer (some (A 1)))) := S1.cell 1 (by decide) (by decide)
  have g2 : w1.cell? ⟨1, 0, none⟩ = some (.iface 111 (.pointer (some (A 2)))) := S1.cell 2 (by decide) (by decide)
  have g3 : w1.cell? ⟨2, 0, none⟩ = some (.iface 111 (.pointer (some (A 3)))) := S1.cell 3 (by decide) (by decide)
  have g4 : w1.cell? ⟨3, 0, none⟩ = some (.iface 111 (.pointer (some (A 4)))) := S1.cell 4 (by decide) (by decide)
  have g5 : w1.cell? ⟨4, 0, none⟩ = some (.iface 111 (.pointer (some (A 5)))) := S1.cell 5 (by decide) (by decide)
  have g6 : w1.cell? ⟨5, 0, none⟩ = some (.iface 111 (.pointer (some (A 6)))) := S1.cell 6 (by decide) (by decide)
  have g7 : w1.cell? ⟨6, 0, none⟩ = some (.iface 111 (.pointer (some (A 7)))) := S1.cell 7 (by decide) (by decide)
  have g8 : w1.cell? ⟨7, 0, none⟩ = some (.iface 111 (.pointer (some (A 8)))) := S1.cell 8 (by decide) (by decide)
  have g9 : w1.cell? ⟨8, 0, none⟩ = some (.iface 111 (.pointer (some (A 9)))) := S1.cell 9 (by decide) (by decide)
  have g10 : w1.cell? ⟨9, 0, none⟩ = some (.iface 111 (.pointer (some (A 10)))) := S1.cell 10 (by decide) (by decide)
  have HB := Lib.hid b1
  clear S1 b1
  go_wp2_with fail
  clear g1 g2 g3 g4 g5 g6 g7 g8 g9 g10
  have R := RowAt.new w1 30 (tenVs A)
  have b2 : Below w.heap.size w (w1.alloc (.cells (tenVs A).toArray 30)) := HB.out.alloc HB.out.size _
  have HR := Lib.hid R
  have HB2 := Lib.hid b2
  have hsz := HB.out.size
  have HSZ := Lib.hid hsz
  clear R b2 HB hsz
  go_loopg [4] 10 (fun g i wr => ∃ k : Nat, g + k = 10 ∧ i = .int .i64 k ∧ RowAt w1.heap.size 30 (tenVs A) wr ∧ Below w.heap.size w wr)
  case atStart => exact ⟨0, rfl, rfl, HR.out, HB2.out⟩
  case round =>
    clear HR HB2
    obtain ⟨k, hg, rfl, R, hb⟩ := hrel
    have hG := Lib.hid hg
    by_cases h10 : k = 10
    · subst h10
      have HB := Lib.hid hb
      clear R hb hg
      go_wp2_with fail
      refine (errs_New _ _).mono ?_
      rintro e w2 ⟨rfl, rfl⟩
      have b3 := HB.out.alloc (o := .cells #[.string { data := #[97, 110, 111, 116, 104, 101, 114, 32, 111, 110, 101] }] 113) HB.out.size
      have S3 := HS.out.below b3
      go_wp2_with fail
      refine (code_other A ⟨wr.heap.size, 0, none⟩ _ _ _ S3 (fun c h1 h2 e => ?_) (heap_alloc_new wr _)).mono ?_
      · obtain ⟨cs, t, hc⟩ := HS.out.blk c h1 h2
        have := lt_of_block hc
        have h4 := congrArg Addr.block e
        have h5 := HB.out.size
        simp only at h4
        omega
      rintro e w4 ⟨rfl, b4⟩
      have b5 := Lib.hid (btrans b3 b4)
      clear b3 b4 S3
      go_wp2_with fail
      refine (law1_coded A 0 (by decide) _ (HS.out.below b5.out)).mono ?_
      rintro e w6 ⟨rfl, b6⟩
      have b7 := Lib.hid (btrans b5.out b6)
      clear b6
      go_wp2_with fail
      go_ret
      exact ⟨rfl, b7.out⟩
    · have hk9 : k < 10 := by omega
      have hck := (R.cell k).trans (tenVs_get A k hk9)
      have HR := Lib.hid R; have HB := Lib.hid hb
      clear R hb hg h10
      have hev := ev_some A (c := k + 1) (by omega)
      have b3 := HB.out.alloc (o := .cells #[.int .i64 7, .iface 111 (.pointer (some (A (k + 1))))] 72) HB.out.size
      have S3 := HS.out.below b3
      have HC := Lib.hid (code_fault A (k + 1) (by omega) (by omega) 7 wr.heap.size _ S3 (by simp) (by simp))
      have HB3 := Lib.hid b3
      clear b3 S3
      go_wp2_with fail
      refine HC.out.mono ?_
      rintro e w4 ⟨rfl, b4⟩
      have b5 := btrans HB3.out b4
      have R5 := RowAt.below HR.out (btrans ((Below.refl wr.heap.size wr).alloc (Nat.le_refl _) _) b4) (RowAt.lt HR.out)
      have hck5 := (R5.cell k).trans (tenVs_get A k hk9)
      have HB5 := Lib.hid b5; have HR5 := Lib.hid R5
      clear b5 R5 b4 hck
      go_wp2_with fail
      have hcd := law1_coded A (k + 1) (by omega) w4 (HS.out.below HB5.out)
      rw [hev] at hcd
      refine hcd.mono ?_
      rintro e w6 ⟨rfl, b6⟩
      have R7 := Lib.hid (RowAt.below HR5.out b6 (RowAt.lt HR5.out))
      have b7 := Lib.hid (btrans HB5.out b6)
      clear b6 hck5 hcd hev
      go_wp2_with fail
      have hg := hG.out
      go_roundg (10 - (k + 1))
      case measure => omega
      case rel => exact ⟨k + 1, by omega, by go_num, R7.out, b7.out⟩
end Go.Proofs.YtajnfkmkombajaaDoor
