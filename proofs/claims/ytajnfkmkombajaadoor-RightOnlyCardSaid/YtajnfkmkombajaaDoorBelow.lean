/- Contracts of package lots: Below. -/
import Derived.Test.YtajnfkmkombajaaDoorLots
import Derived.Test.YtajnfkmkombajaaDoorPlBelow
import Derived.Test.YtajnfkmkombajaaDoorErr
import Derived.Test.YtajnfkmkombajaaDoorKeep
import Derived.Deep.LoopGhost
import Derived.Deep.QuietTactic
import Derived.BigQuiet
set_option linter.unusedVariables false
set_option linter.unusedSimpArgs false
namespace Go.Proofs.YtajnfkmkombajaaDoor
open Go.RowKit

theorem end_int (n : Nat) : (9223372036854775808 : Int) / (n : Int) * (n : Int) = (endB n : Int) := by
  unfold endB; rw [Int.natCast_mul, Int.natCast_ediv]; rfl
theorem end_wrap (n : Nat) : IntKind.u64.wrap (endB n : Int) = (endB n : Int) := by
  have := endB_le n
  rw [IntKind.wrap_u64]; omega
theorem half_int (x : Nat) : ((x : Int) / 2) = ((x / 2 : Nat) : Int) := by omega

/-- block b is lots whose state is s -/
def LotsAt (b : Nat) (s : Nat) (w : World) : Prop := RowAt b 115 [.int .u64 (s : Int)] w
theorem LotsAt.cell {b s : Nat} {w : World} (h : LotsAt b s w) : w.cell? ⟨b, 0, none⟩ = some (.int .u64 (s : Int)) := (RowAt.cell h 0).trans rfl
theorem LotsAt.frozen {b s : Nat} {w : World} (h : LotsAt b s w) : w.frozen? ⟨b, 0, none⟩ = false := RowAt.frozen h 0
theorem LotsAt.put {b s t : Nat} {w : World} (h : LotsAt b s w) : LotsAt b t (w.setCell ⟨b, 0, none⟩ (.int .u64 (t : Int))) := RowAt.set h 0 _
theorem LotsAt.keep {F : Nat → Prop} {b s : Nat} {w w' : World} (h : LotsAt b s w) (k : Keep F w w') (hF : ¬ F b) : LotsAt b s w' := RowAt.keep h k hF

theorem lots_Below_out (A : Nat → Addr) (S : List Nat) (b : Nat) (n : Int) (w : World) (hE : Errs A S w) (h2 : 2 ∈ S) (hn : n < 1 ∨ 1125899906842624 < n) :
    Calls Tryd.prog 58 #[.pointer (some ⟨b, 0, none⟩), .int .i64 n] w fun e w' => e = .returned (.tuple #[.int .i64 0, ev A 2]) ∧ Dr w w' := by
  have g2 : w.cell? ⟨1, 0, none⟩ = some (.iface 111 (.pointer (some (A 2)))) := hE.cell 2 h2
  clear hE
  by_cases h0 : n < 1
  · clear hn
    go_enter Tryd.func58, Tryd.ntmps58
    go_wp2_with fail
    go_quiet (fail)
    go_wp2_with fail
    go_ret2
    exact ⟨rfl, nq, rfl⟩
  · have h1 : 1125899906842624 < n := by omega
    have e0 : decide (n < 1) = false := by simp; omega
    clear hn
    go_enter Tryd.func58, Tryd.ntmps58
    go_wp2_with fail
    go_quiet (fail)
    go_wp2_with fail
    go_ret2
    exact ⟨rfl, nq, rfl⟩

set_option maxRecDepth 8000 in
set_option maxHeartbeats 1000000 in
theorem lots_Below_in (b s n : Nat) (w : World) (hs : s < 18446744073709551616) (h0 : 1 ≤ n) (h1 : n ≤ 1125899906842624) (hl : LotsAt b s w) :
    Calls Tryd.prog 58 #[.pointer (some ⟨b, 0, none⟩), .int .i64 n] w fun e w' => e = .returned (.tuple #[.int .i64 (belowN s n), .nilIface]) ∧ Keep (· = b) w w' ∧ LotsAt b (belowS s n) w' := by
  have hF := firstLot_is hs h0 h1
  have HN := Lib.hid (show belowN s n = lotHalf s (firstLot s n) % n from rfl)
  have HS := Lib.hid (show belowS s n = lotSt s (firstLot s n) from rfl)
  have HL := Lib.hid hl
  have Hst0 := Lib.hid (lotSt_zero hs)
  generalize firstLot s n = J at *
  have HJ := Lib.hid hF
  have hJ1 := hF.one
  have i1 : (1 : Int) ≤ (n : Int) := by omega
  have i2 : (n : Int) ≤ 1125899906842624 := by omega
  have e0 : decide ((n : Int) < 1) = false := by simp; omega
  have e1 : decide ((1125899906842624 : Int) < (n : Int)) = false := by simp; omega
  have cv : IntKind.u64.wrap (n : Int) = (n : Int) := by rw [IntKind.wrap_u64]; omega
  obtain ⟨qn, hqn⟩ : ∃ qn : Nat, (9223372036854775808 : Int) / (n : Int) = (qn : Int) := ⟨9223372036854775808 / n, by rw [Int.natCast_ediv]; rfl⟩
  have hq := end_int n
  rw [hqn] at hq
  have hw := end_wrap n
  clear hF hs hl h0 h1
  go_enter Tryd.func58, Tryd.ntmps58
  go_wp2_with fail
  clear hq hw cv hqn
  go_loopg [8] J (fun g _ wr => ∃ i : Nat, g + i = J ∧ i < J ∧ LotsAt b (lotSt s i) wr ∧ Keep (· = b) w wr)
  case atStart => exact ⟨0, by omega, by omega, by rw [Hst0.out]; exact HL.out, Keep.refl _ _⟩
  case round =>
    clear HL Hst0
    obtain ⟨i, hg, hi, hl, hk⟩ := hrel
    have hG := Lib.hid hg; clear hg
    have hc := hl.cell
    have hf := hl.frozen
    have hst := lotSt_succ s i
    have hout := lotOut_nat (lotSt s (i + 1)) (lotSt_lt _ _)
    have hnew := Lib.hid (hl.put (t := lotSt s (i + 1)))
    have HK := Lib.hid (hk.put (.int .u64 (lotSt s (i + 1) : Int)) (o := 0))
    have hhalf : lotHalf s (i + 1) = lotN (lotSt s (i + 1)) / 2 := rfl
    have hzl := lotN_lt (lotSt s (i + 1))
    clear hl hk
    have H1 := Lib.hid hst; have H2 := Lib.hid hout; have H3 := Lib.hid hhalf
    clear hst hout hhalf
    have hnx := Lib.hid (lots_Next b (lotSt s i : Int) wr hc hf)
    by_cases hend : i + 1 = J
    · subst hend
      have hfit := HJ.out.fits
      rw [H3.out] at hfit
      generalize hz : lotN (lotSt s (i + 1)) = z at *
      have dl : decide ((z : Int) / 2 < (endB n : Int)) = true := decide_eq_true (by omega)
      have zb : (0 : Int) ≤ (z : Int) / 2 % (n : Int) ∧ (z : Int) / 2 % (n : Int) ≤ 1125899906842624 := ⟨Int.emod_nonneg _ (by omega), by have := Int.emod_lt_of_pos ((z : Int) / 2) (show (0 : Int) < (n : Int) by omega); omega⟩
      have cv2 : IntKind.i64.wrap ((z : Int) / 2 % (n : Int)) = (z : Int) / 2 % (n : Int) := by
        rw [IntKind.wrap_i64]; omega
      have Hval := Lib.hid (show ((z : Int) / 2 % (n : Int)) = ((z / 2 % n : Nat) : Int) by rw [half_int, Int.natCast_emod])
      have HN2 := Lib.hid (show belowN s n = z / 2 % n by rw [HN.out, H3.out])
      have HS2 := Lib.hid (show belowS s n = lotSt s (i + 1) by rw [HS.out])
      clear hz hfit hzl
      go_wp2_with fail
      refine hnx.out.mono ?_
      rintro e w' ⟨rfl, rfl⟩
      rw [H1.out, H2.out]
      go_wp2_with fail
      go_ret2
      refine ⟨?_, HK.out, by rw [HS2.out]; exact hnew.out⟩
      rw [HN2.out, ← Hval.out]
      rfl
    · have hfit := HJ.out.first (i + 1) (by omega) (by omega)
      rw [H3.out] at hfit
      generalize hz : lotN (lotSt s (i + 1)) = z at *
      have dl : decide ((z : Int) / 2 < (endB n : Int)) = false := decide_eq_false (by omega)
      clear hz hfit hzl
      go_wp2_with fail
      refine hnx.out.mono ?_
      rintro e w' ⟨rfl, rfl⟩
      rw [H1.out, H2.out]
      go_wp2_with fail
      have hg := hG.out
      go_roundg (J - (i + 1))
      case measure => omega
      case rel => exact ⟨i + 1, by omega, by omega, hnew.out, HK.out⟩
end Go.Proofs.YtajnfkmkombajaaDoor
