/- plain.Code at an error of errors.New; the law Names. -/
import Derived.Test.YtajnfkmkombajaaDoorCode
import Derived.Test.YtajnfkmkombajaaDoorCoded1
import Derived.Test.YtajnfkmkombajaaDoorSame
set_option linter.unusedVariables false
set_option linter.unusedSimpArgs false
namespace Go.Proofs.YtajnfkmkombajaaDoor
open Go.RowKit

theorem errs_New (w : World) : ∀ s, Calls Tryd.prog 55 #[.string s] w fun e w' => e = .returned (.iface 111 (.pointer (some ⟨w.heap.size, 0, none⟩))) ∧ w' = w.alloc (.cells #[.string s] 113) := by
  intro s
  go_enter Tryd.func55, Tryd.ntmps55
  go_wp2_with fail
  go_ret
  exact ⟨rfl, rfl⟩

set_option maxHeartbeats 1000000 in
set_option maxRecDepth 8000 in
/-- an error of package errors that is none of the ten -/
theorem code_other (A : Nat → Addr) (a : Addr) (ca : Array Value) (ta : TypeId) (w : World) (hS : Sents A w) (hne : ∀ c, 1 ≤ c → c ≤ 10 → a ≠ A c) (ha : w.heap[a.block]? = some (.cells ca ta (0, 0))) :
    Calls Tryd.prog 53 #[.iface 111 (.pointer (some a))] w fun e w' => e = .returned (.tuple #[.int .i64 (-1), .int .i64 (-1)]) ∧ Below w.heap.size w w' := by
  have HS := Lib.hid hS; clear hS
  have HN := Lib.hid hne; have HA := Lib.hid ha
  clear hne ha
  go_enter Tryd.func53, Tryd.ntmps53
  go_wp2_with fail
  have b0 : Below w.heap.size w (w.alloc (.cells #[.pointer none] 70)) := (Below.refl _ _).alloc (Nat.le_refl _) _
  refine (as_miss _ _ _ (HS.out.below b0).typ).mono ?_
  rintro e w1 ⟨rfl, b1⟩
  have b01 := btrans b0 b1
  have S1 := HS.out.below b01
  have g1 : w1.cell? ⟨0, 0, none⟩ = some (.iface 111 (.pointer (some (A 1)))) := S1.cell 1 (by decide) (by decide)
  have g2 : w1.cell? ⟨1, 0, none⟩ = some (.iface 111 (.pointer (some (A 2)))) := S1.cell 2 (by decide) (by decide)
  have g3 : w1.cell? ⟨2, 0, none⟩ = some (.iface 111 (.pointer (some (A 3)))) := S1.cell 3 (by decide) (by decide)
  have g4 : w1.cell? ⟨3, 0, none⟩ = some (.iface 111 (.pointer (some (A 4)))) := S1.cell 4 (by decide) (by decide)
  have g5 : w1.cell? ⟨4, 0, none⟩ = some (.iface 111 (.pointer (some (A 5)))) := S1.cell 5 (by decide) (by decide)
  have g6 : w1.cell? ⟨5, 0, none⟩ = some (.iface 111 (.pointer (some (A 6)))) := S1.cell 6 (by decide) (by decide)
  have g7 : w1.cell? ⟨6, 0, none⟩ = some (.iface 111 (.pointer (some (A 7)))) := S1.cell 7 (by decide) (by decide)
  have g8 : w1.cell? ⟨7, 0, none⟩ = some (.iface 111 (.pointer (some (A 8)))) := S1.cell 8 (by decide) (by decide)
  have g9 : w1.cell? ⟨8, 0, none⟩ = some (.iface 111 (.pointer (some (A 9)))) := S1.cell 9 (by decide) (by decide)
  have g10 : w1.cell? ⟨9, 0, none⟩ = some (.iface 111 (.pointer (some (A 10)))) := S1.cell 10 (by decide) (by decide)
  have HS1 := Lib.hid S1; have HB := Lib.hid b01
  clear S1 b0 b1 b01
  go_wp2_with fail
  clear g1 g2 g3 g4 g5 g6 g7 g8 g9 g10
  have R := RowAt.new w1 30 (tenVs A)
  have b2 : Below w.heap.size w (w1.alloc (.cells (tenVs A).toArray 30)) := HB.out.alloc HB.out.size _
  have HR := Lib.hid R
  have HB2 := Lib.hid b2
  clear R b2 HB HS1
  go_loopw [28, 3] (fun i s3 wr => ∃ k : Nat, k ≤ 10 ∧ i = .int .i64 k ∧ s3 = .int .i64 (-1) ∧ RowAt w1.heap.size 30 (tenVs A) wr ∧ Below w.heap.size w wr) (fun i _ _ => 10 - (intOf i).toNat)
  case atStart => exact ⟨0, by omega, rfl, rfl, HR.out, HB2.out⟩
  case round =>
    clear HR HB2
    obtain ⟨k, hk, rfl, rfl, R, hb⟩ := hrel
    by_cases h10 : k = 10
    · subst h10
      have HB := Lib.hid hb
      clear R hb
      go_wp2_with fail
      go_ret2
      exact ⟨rfl, HB.out⟩
    · have hk9 : k < 10 := by omega
      have hck := (R.cell k).trans (tenVs_get A k hk9)
      have S2 := HS.out.below hb
      have ha2 := below_heap hb HA.out (lt_of_block HA.out)
      have HB := Lib.hid hb; have HR := Lib.hid R; have HS2 := Lib.hid S2; have HA2 := Lib.hid ha2
      clear R hb S2 ha2 hk h10
      obtain ⟨cb, tb, hcb⟩ := HS2.out.blk (k + 1) (by omega) (by omega)
      have HCB := Lib.hid hcb
      clear hcb
      go_wp2_with fail
      refine (is_other _ _ _ _ _ _ _ (HN.out (k + 1) (by omega) (by omega)) HA2.out HCB.out).mono ?_
      rintro e w' ⟨rfl, rfl⟩
      go_wp2_with fail
      go_roundw
      case rel => exact ⟨k + 1, by omega, by go_num, rfl, HR.out, HB.out⟩
      case measure => simp [intOf]; omega

end Go.Proofs.YtajnfkmkombajaaDoor
