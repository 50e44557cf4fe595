/-
  The walk of math/bits.Div64.
  Contract of package part's Amount.
  Contracts of package part: Amount, over, Down, Up.
  A pool of package pool, held in a block and a map.
-/
import Derived.Test.YtajnfkmkombajabGreatDoorQSR03
import Derived.Test.YtajnfkmkombajabGreatDoorQSR06
import Derived.Test.YtajnfkmkombajabGreatDoorQSR01
import Derived.Deep.QuietTactic
import Derived.BigQuiet
import Derived.Deep.DeepCutAuto
import Derived.Deep.CutBlock
import Derived.Outline
import Derived.Test.YtajnfkmkombajabGreatDoorQSR04
import Derived.Maps.OwnSet
set_option linter.unusedVariables false
set_option linter.unusedSimpArgs false
set_option linter.unusedVariables false
namespace Go.Proofs.YtajnfkmkombajabGreatDoor
open Go.RowKit

set_option maxRecDepth 100000 in
set_option maxHeartbeats 2000000 in
theorem div64_great (hi lo y s Y y1 y0 h' l' u t u1 u0 : Nat) (D : DivPrep hi lo y s Y y1 y0 h' l' u t u1 u0) (hs : Lib.bitLen y + s = 64) (h0 : 0 < hi) (hlo : lo < 18446744073709551616) (hy : hi < y) (hyM : y ≤ 1125899906842624) (hs1 : 13 ≤ s) (hs2 : s ≤ 63) (w : World) :
    Calls Tryz.prog 155 #[.int .u64 hi, .int .u64 lo, .int .u64 y] w fun e w' => e = .returned (.tuple #[.int .u64 (((hi * 18446744073709551616 + lo) / y : Nat) : Int), .int .u64 (((hi * 18446744073709551616 + lo) % y : Nat) : Int)]) ∧ w = w' := by
  have e1 : ((y : Int) == 0) = false := by simp; omega
  have e2 : ((hi : Int) == 0) = false := by simp; omega
  have e3 : (64 - (Lib.bitLen (y : Int).toNat : Int)) = (s : Int) := by simp; omega
  have E3 := Lib.hid e3; clear e3
  clear hs
  have HD := Lib.hid D
  obtain ⟨a1, a2, a3, a4, a5, a6, a7, a8, a9, y0lt, y1ge, y1lt, Yeq, ult, u1lt, u0lt, Ys, all⟩ := D
  have N1 : Hid ((y0 : Int) < 4294967296) := (by unfold B32 at y0lt; omega : (y0 : Int) < 4294967296)
  have N2 : Hid ((y1 : Int) < 4294967296) := (by unfold B32 at y1lt; omega : (y1 : Int) < 4294967296)
  have N3 : Hid ((u1 : Int) < 4294967296) := (by unfold B32 at u1lt; omega : (u1 : Int) < 4294967296)
  have N4 : Hid ((u0 : Int) < 4294967296) := (by unfold B32 at u0lt; omega : (u0 : Int) < 4294967296)
  have N6 : Hid ((2147483648 : Int) ≤ (y1 : Int)) := (by omega : (2147483648 : Int) ≤ (y1 : Int))
  clear Yeq ult Ys all y0lt y1ge y1lt u1lt u0lt
  have hy1p : (1 : Int) ≤ (y1 : Int) := by have := N6.out; omega
  have hy1n : ((y1 : Int) = 0) = False := by simp; omega
  have hu64 : u < 18446744073709551616 := by have := HD.out.Yeq; have := HD.out.ult; have := HD.out.y0lt; have := HD.out.y1lt; unfold B32 at *; omega
  obtain ⟨qi, hqi⟩ : ∃ qi, qi = u / y1 := ⟨_, rfl⟩
  obtain ⟨ri, hri0⟩ : ∃ ri, ri = u % y1 := ⟨_, rfl⟩
  have b1 : IntKind.u64.wrap ((u : Int) / (y1 : Int)) = (qi : Int) := by rw [hqi]; exact u64_quo u y1 hu64
  have b2 : IntKind.u64.wrap ((u : Int) - IntKind.u64.wrap ((qi : Int) * (y1 : Int))) = (ri : Int) := by rw [hqi, hri0]; exact u64_rem u y1 hu64
  have HU : Hid (u < y1 * B32 + y0) := by have := HD.out.Yeq; have := HD.out.ult; exact (by omega : u < y1 * B32 + y0)
  have HI : Hid (KInv y1 y0 u u1 qi ri) := by rw [hqi, hri0]; exact k_start HD.out.y1ge HD.out.y0lt HU.out HD.out.u1lt
  have hri : ri < 4294967296 := by have : u % y1 < y1 := Nat.mod_lt _ (by omega); have := N2.out; omega
  obtain ⟨Q, hQ⟩ : ∃ Q, Q = (u * B32 + u1) / Y := ⟨_, rfl⟩
  have HQ := Lib.hid hQ; clear hQ hqi hri0
  have d1 : decide (y ≤ hi) = false := by simp; omega
  have Hri := Lib.hid hri
  have hyI : (y : Int) ≤ 1125899906842624 := by omega
  have HyI := Lib.hid hyI
  have hy0 : (0 : Int) ≤ (y : Int) := by omega
  clear hri hu64 hyM hlo hyI
  go_enter Tryz.func155, Tryz.ntmps155
  go_upto_block 0 with (go_at_call 176; refine (Tryz.bits_LeadingZeros64 _ _ hy0 (by have := HyI.out; omega)).mono ?_; rintro e w' ⟨rfl, hww⟩; rw [E3.out])
  have hww2 := hww.symm
  subst hww2
  clear hww
  go_cut [15, 16] (fun a _ wx => a = .int .u64 Q ∧ w = wx)
  case first =>
    go_wp2_with fail
    have n1 := N1.out
    have n2 := N2.out
    have n3 := N3.out
    have n6 := N6.out
    go_loop [15, 16] (fun a b => KRel y1 y0 u u1 a b) (fun a _ => kmeas a)
    case atStart => exact ⟨_, _, HI.out, by have := Hri.out; omega, rfl, rfl⟩
    case round =>
      obtain ⟨q, r, I, hr, rfl, rfl⟩ := hrel
      have hle := I.le
      have HIr := Lib.hid I; clear I
      have hle2 : (q : Int) ≤ 4294967297 := by unfold B32 at hle; omega
      clear hle
      by_cases hq : (4294967296 : Int) ≤ (q : Int)
      · obtain ⟨p1, I2, p2⟩ := k_step HD.out.y1ge HU.out HD.out.u1lt HIr.out (.inl (by unfold B32; omega))
        have HI2 := Lib.hid I2; clear I2
        have hp1 : (1 : Int) ≤ (q : Int) := by omega
        have Hp2 := Lib.hid p2; clear p2 p1
        by_cases hr2 : (4294967296 : Int) ≤ (r : Int) + (y1 : Int)
        · have HqQ : Hid (((q : Int) - 1) = (Q : Int)) := by
            have := k_break (by have := HU.out; omega) HD.out.y0lt Hp2.out (by unfold B32; omega) HI2.out
            exact (by rw [HQ.out, HD.out.Yeq, ← this]; omega : ((q : Int) - 1) = (Q : Int))
          go_wp2_with (go_meet; exact ⟨by rw [HqQ.out], rfl⟩)
        · have HN := Lib.hid (krel_next HI2.out hr2 hp1)
          go_wp2_with fail
          exact HN.out
      · have hqn : (q : Int) < 4294967296 := by omega
        have hp := u64_mul' q y0 (by have := Nat.mul_lt_mul'' (show q < 4294967296 by omega) (show y0 < 4294967296 by omega); exact this)
        have hdq : decide ((4294967296 : Int) ≤ (q : Int)) = false := by simp; omega
        by_cases ht : (4294967296 : Int) * (r : Int) + (u1 : Int) < (q : Int) * (y0 : Int)
        · have hdt : decide ((4294967296 : Int) * (r : Int) + (u1 : Int) < (q : Int) * (y0 : Int)) = true := by simp only [decide_eq_true_eq]; exact ht
          obtain ⟨p1, I2, p2⟩ := k_step HD.out.y1ge HU.out HD.out.u1lt HIr.out (.inr (cast_lt ht))
          have HI2 := Lib.hid I2; clear I2
          have hp1 : (1 : Int) ≤ (q : Int) := by omega
          have Hp2 := Lib.hid p2; clear p2 p1
          by_cases hr2 : (4294967296 : Int) ≤ (r : Int) + (y1 : Int)
          · have HqQ : Hid (((q : Int) - 1) = (Q : Int)) := by
              have := k_break (by have := HU.out; omega) HD.out.y0lt Hp2.out (by unfold B32; omega) HI2.out
              exact (by rw [HQ.out, HD.out.Yeq, ← this]; omega : ((q : Int) - 1) = (Q : Int))
            go_wp2_with (go_meet; exact ⟨by rw [HqQ.out], rfl⟩)
          · have HN := Lib.hid (krel_next HI2.out hr2 hp1)
            go_wp2_with fail
            exact HN.out
        · have hdt : decide ((4294967296 : Int) * (r : Int) + (u1 : Int) < (q : Int) * (y0 : Int)) = false := by simp only [decide_eq_false_iff_not]; exact ht
          have HqQ : Hid ((q : Int) = (Q : Int)) := by
            have := k_end (by have := HU.out; omega) HIr.out (cast_le ht)
            exact (by rw [HQ.out, HD.out.Yeq, ← this] : (q : Int) = (Q : Int))
          go_wp2_with (go_meet; exact ⟨by rw [HqQ.out], rfl⟩)
  case rest =>
    obtain ⟨rfl, rfl⟩ := hcut
    have N5 : Hid (Y < 18446744073709551616) := (by have := HD.out.Yeq; have := HD.out.y0lt; have := HD.out.y1lt; unfold B32 at *; omega : Y < 18446744073709551616)
    have N7 : Hid (0 < Y) := (by have := HD.out.ult; omega : 0 < Y)
    obtain ⟨u21, hu21⟩ : ∃ u21, u21 = (u * B32 + u1) % Y := ⟨_, rfl⟩
    have c1 : IntKind.u64.wrap (IntKind.u64.wrap (IntKind.u64.wrap ((u : Int) * 4294967296) + (u1 : Int)) - IntKind.u64.wrap ((Q : Int) * (Y : Int))) = (u21 : Int) := by rw [hu21]; exact u64_left u u1 Q Y N5.out N7.out HQ.out
    have HU2 : Hid (u21 < y1 * B32 + y0) := by
      have h := Nat.mod_lt (u * B32 + u1) N7.out
      rw [← hu21] at h
      have := HD.out.Yeq
      exact (by omega : u21 < y1 * B32 + y0)
    have hu21l : u21 < 18446744073709551616 := by have := HD.out.Yeq; have := HU2.out; have := N5.out; omega
    obtain ⟨qj, hqj⟩ : ∃ qj, qj = u21 / y1 := ⟨_, rfl⟩
    obtain ⟨rj, hrj0⟩ : ∃ rj, rj = u21 % y1 := ⟨_, rfl⟩
    have d1 : IntKind.u64.wrap ((u21 : Int) / (y1 : Int)) = (qj : Int) := by rw [hqj]; exact u64_quo u21 y1 hu21l
    have d2 : IntKind.u64.wrap ((u21 : Int) - IntKind.u64.wrap ((qj : Int) * (y1 : Int))) = (rj : Int) := by rw [hqj, hrj0]; exact u64_rem u21 y1 hu21l
    have HI' : Hid (KInv y1 y0 u21 u0 qj rj) := by rw [hqj, hrj0]; exact k_start HD.out.y1ge HD.out.y0lt HU2.out HD.out.u0lt
    have Hri' : Hid (rj < 4294967296) := (by have : u21 % y1 < y1 := Nat.mod_lt _ (by have := N6.out; omega); have := N2.out; omega : rj < 4294967296)
    obtain ⟨Q2, hQ2⟩ : ∃ Q2, Q2 = (u21 * B32 + u0) / Y := ⟨_, rfl⟩
    have HQ2 := Lib.hid hQ2; clear hQ2 hqj hrj0
    have HU21 := Lib.hid hu21; clear hu21 hu21l
    go_upto_block 2 with fail
    go_cut [18, 16] (fun a _ wx => a = .int .u64 Q2 ∧ w = wx)
    case first =>
      go_wp2_with fail
      have n1 := N1.out
      have n2 := N2.out
      have n4 := N4.out
      have n6 := N6.out
      go_loop [18, 16] (fun a b => KRel y1 y0 u21 u0 a b) (fun a _ => kmeas a)
      case atStart => exact ⟨_, _, HI'.out, by have := Hri'.out; omega, rfl, rfl⟩
      case round =>
        obtain ⟨q, r, I, hr, rfl, rfl⟩ := hrel
        have hle := I.le
        have HIr := Lib.hid I; clear I
        have hle2 : (q : Int) ≤ 4294967297 := by unfold B32 at hle; omega
        clear hle
        by_cases hq : (4294967296 : Int) ≤ (q : Int)
        · obtain ⟨p1, I2, p2⟩ := k_step HD.out.y1ge HU2.out HD.out.u0lt HIr.out (.inl (by unfold B32; omega))
          have HI2 := Lib.hid I2; clear I2
          have hp1 : (1 : Int) ≤ (q : Int) := by omega
          have Hp2 := Lib.hid p2; clear p2 p1
          by_cases hr2 : (4294967296 : Int) ≤ (r : Int) + (y1 : Int)
          · have HqQ : Hid (((q : Int) - 1) = (Q2 : Int)) := by
              have := k_break (by have := HU2.out; omega) HD.out.y0lt Hp2.out (by unfold B32; omega) HI2.out
              exact (by rw [HQ2.out, HD.out.Yeq, ← this]; omega : ((q : Int) - 1) = (Q2 : Int))
            go_wp2_with (go_meet; exact ⟨by rw [HqQ.out], rfl⟩)
          · have HN := Lib.hid (krel_next HI2.out hr2 hp1)
            go_wp2_with fail
            exact HN.out
        · have hqn : (q : Int) < 4294967296 := by omega
          have hp := u64_mul' q y0 (by have := Nat.mul_lt_mul'' (show q < 4294967296 by omega) (show y0 < 4294967296 by omega); exact this)
          have hdq : decide ((4294967296 : Int) ≤ (q : Int)) = false := by simp; omega
          by_cases ht : (4294967296 : Int) * (r : Int) + (u0 : Int) < (q : Int) * (y0 : Int)
          · have hdt : decide ((4294967296 : Int) * (r : Int) + (u0 : Int) < (q : Int) * (y0 : Int)) = true := by simp only [decide_eq_true_eq]; exact ht
            obtain ⟨p1, I2, p2⟩ := k_step HD.out.y1ge HU2.out HD.out.u0lt HIr.out (.inr (cast_lt ht))
            have HI2 := Lib.hid I2; clear I2
            have hp1 : (1 : Int) ≤ (q : Int) := by omega
            have Hp2 := Lib.hid p2; clear p2 p1
            by_cases hr2 : (4294967296 : Int) ≤ (r : Int) + (y1 : Int)
            · have HqQ : Hid (((q : Int) - 1) = (Q2 : Int)) := by
                have := k_break (by have := HU2.out; omega) HD.out.y0lt Hp2.out (by unfold B32; omega) HI2.out
                exact (by rw [HQ2.out, HD.out.Yeq, ← this]; omega : ((q : Int) - 1) = (Q2 : Int))
              go_wp2_with (go_meet; exact ⟨by rw [HqQ.out], rfl⟩)
            · have HN := Lib.hid (krel_next HI2.out hr2 hp1)
              go_wp2_with fail
              exact HN.out
          · have hdt : decide ((4294967296 : Int) * (r : Int) + (u0 : Int) < (q : Int) * (y0 : Int)) = false := by simp only [decide_eq_false_iff_not]; exact ht
            have HqQ : Hid ((q : Int) = (Q2 : Int)) := by
              have := k_end (by have := HU2.out; omega) HIr.out (cast_le ht)
              exact (by rw [HQ2.out, HD.out.Yeq, ← this] : (q : Int) = (Q2 : Int))
            go_wp2_with (go_meet; exact ⟨by rw [HqQ.out], rfl⟩)
    case rest =>
      obtain ⟨rfl, rfl⟩ := hcut
      have f1 : IntKind.u64.wrap (IntKind.u64.wrap (IntKind.u64.wrap ((u21 : Int) * 4294967296) + (u0 : Int)) - IntKind.u64.wrap ((Q2 : Int) * (Y : Int))) = (((u21 * B32 + u0) % Y : Nat) : Int) := u64_left u21 u0 Q2 Y N5.out N7.out HQ2.out
      obtain ⟨R, hR⟩ : ∃ R, R = (u21 * B32 + u0) % Y := ⟨_, rfl⟩
      rw [← hR] at f1
      have HR := Lib.hid hR; clear hR
      have g1 : (Q : Int) < 4294967296 := by
        have := k_q_lt (by have := HU.out; omega) HU.out HD.out.u1lt
        rw [← HD.out.Yeq, ← HQ.out] at this; unfold B32 at this; omega
      have g2 : (Q2 : Int) < 4294967296 := by
        have := k_q_lt (by have := HU2.out; omega) HU2.out HD.out.u0lt
        rw [← HD.out.Yeq, ← HQ2.out] at this; unfold B32 at this; omega
      obtain ⟨k1, k2⟩ := div_fin HD.out N7.out HQ.out HU21.out HQ2.out HR.out
      have K1 := Lib.hid k1
      have K2 := Lib.hid k2
      clear k1 k2
      go_wp2_with fail
      go_ret2
      refine ⟨?_, rfl⟩
      rw [← K1.out, ← K2.out]
      rfl
/-- math/bits.Div64: two words over one that is an amount -/
def DivPost (n y : Nat) (w : World) (e : Ending) (w' : World) : Prop := e = .returned (.tuple #[.int .u64 ((n / y : Nat) : Int), .int .u64 ((n % y : Nat) : Int)]) ∧ ∃ k, w.drewN k = w'

theorem div64_small (lo y : Nat) (hlo : lo < 18446744073709551616) (hy : 0 < y) (hyM : y ≤ 1125899906842624) (w : World) :
    Calls Tryz.prog 155 #[.int .u64 0, .int .u64 lo, .int .u64 y] w (DivPost lo y w) := by
  have e1 : ((y : Int) == 0) = false := by simp; omega
  have d1 : decide (y ≤ 0) = false := by simp; omega
  have e2 : IntKind.u64.wrap ((lo : Int) / (y : Int)) = ((lo / y : Nat) : Int) := u64_quo lo y hlo
  have hlt : lo / y < 18446744073709551616 := Nat.lt_of_le_of_lt (Nat.div_le_self _ _) hlo
  have hy1 : (1 : Int) ≤ (y : Int) := by omega
  have hy2 : ((y : Int) = 0) = False := by simp; omega
  clear hlt hlo hyM
  go_enter Tryz.func155, Tryz.ntmps155
  go_wp2_with fail
  go_quiet (fail)
  go_wp2
  go_ret2
  exact ⟨rfl, nq, rfl⟩

theorem bits_Div64 (hi lo y : Nat) (hlo : lo < 18446744073709551616) (hy : hi < y) (hyM : y ≤ 1125899906842624) (w : World) :
    Calls Tryz.prog 155 #[.int .u64 hi, .int .u64 lo, .int .u64 y] w (DivPost (hi * 18446744073709551616 + lo) y w) := by
  by_cases h0 : hi = 0
  · subst h0
    have := div64_small lo y hlo hy hyM w
    simpa using this
  · obtain ⟨b1, b2, b3, b4⟩ := bitLen_bounds 51 y (by omega) (by decide) (by omega)
    obtain ⟨s, hs⟩ : ∃ s, Lib.bitLen y + s = 64 := ⟨64 - Lib.bitLen y, by omega⟩
    have h := div64_great hi lo y s _ _ _ _ _ _ _ _ _ (div_prep hi lo y s hs hlo hy hyM) hs (by omega) hlo hy hyM (by omega) (by omega) w
    exact h.mono fun e w' ⟨he, hw⟩ => ⟨he, 0, hw⟩
end Go.Proofs.YtajnfkmkombajabGreatDoor
namespace Go.Proofs.YtajnfkmkombajabGreatDoor
open Go.RowKit

theorem part_Amount (n : Int) (w : World) : Calls Tryz.prog 77 #[.int .i64 n] w fun e w' => e = .returned (.bool (amtB n)) ∧ w = w' := by
  by_cases h : 0 ≤ n ∧ n ≤ 1125899906842624
  · obtain ⟨h0, h1⟩ := h
    have H := Lib.hid (amtB_iff.2 ⟨h0, h1⟩)
    go_enter Tryz.func77, Tryz.ntmps77
    go_wp2
    go_ret
    exact ⟨by rw [H.out]; rfl, rfl⟩
  · have H := Lib.hid (amtB_false.2 h)
    rcases Int.lt_or_le n 0 with h0 | h0
    · clear h
      go_enter Tryz.func77, Tryz.ntmps77
      go_wp2
      go_ret
      exact ⟨by rw [H.out]; rfl, rfl⟩
    · have hd : decide (n ≤ 1125899906842624) = false := by simp; omega
      clear h
      go_enter Tryz.func77, Tryz.ntmps77
      go_wp2
      go_ret
      exact ⟨by rw [H.out]; rfl, rfl⟩

end Go.Proofs.YtajnfkmkombajabGreatDoor
namespace Go.Proofs.YtajnfkmkombajabGreatDoor
open Go.RowKit

def OverPost (A : Nat → Addr) (a b c : Int) (w : World) (e : Ending) (w' : World) : Prop := e = .returned (.tuple #[.int .i64 (overN a b c), .int .i64 (overR a b c), ev A (overC a b c)]) ∧ Dr w w'

/-- all three may be reckoned with -/
theorem over_in (A : Nat → Addr) (S : List Nat) (a b c : Nat) (ha : a ≤ 1125899906842624) (hb : b ≤ 1125899906842624) (hc0 : 0 < c) (hc : c ≤ 1125899906842624) (w : World) (hE : Errs A S w) (h2 : 2 ∈ S) :
    Calls Tryz.prog 121 #[.int .i64 a, .int .i64 b, .int .i64 c] w (OverPost A a b c w) := by
  have g2 : w.cell? ⟨0, 0, none⟩ = some (.iface 235 (.pointer (some (A 2)))) := hE.cell 2 h2
  have ha1 : amtB (a : Int) = true := amtB_iff.2 (by omega)
  have hb1 : amtB (b : Int) = true := amtB_iff.2 (by omega)
  have hc1 : amtB (c : Int) = true := amtB_iff.2 (by omega)
  have hc2 : ((c : Int) == 0) = false := by simp; omega
  have ia : (0 : Int) ≤ (a : Int) ∧ (a : Int) ≤ 1125899906842624 := by omega
  have ib : (0 : Int) ≤ (b : Int) ∧ (b : Int) ≤ 1125899906842624 := by omega
  have ic : (0 : Int) ≤ (c : Int) ∧ (c : Int) ≤ 1125899906842624 := by omega
  obtain ⟨hi, hhi⟩ : ∃ hi, hi = a * b / 18446744073709551616 := ⟨_, rfl⟩
  obtain ⟨lo, hlo⟩ : ∃ lo, lo = a * b % 18446744073709551616 := ⟨_, rfl⟩
  have hM : ∀ wx : World, Calls Tryz.prog 154 #[.int .u64 a, .int .u64 b] wx fun e w' => e = .returned (.tuple #[.int .u64 (hi : Int), .int .u64 (lo : Int)]) ∧ w' = wx := by
    intro wx; rw [hhi, hlo]; exact Tryz.bits_Mul64 a b (by omega) (by omega) wx
  have hall : hi * 18446744073709551616 + lo = a * b := by rw [hhi, hlo]; omega
  have hlol : lo < 18446744073709551616 := by rw [hlo]; exact Nat.mod_lt _ (by decide)
  have HM := Lib.hid hM
  clear hM hhi hlo ha hb
  have hmulc : (a : Int) * (b : Int) = ((a * b : Nat) : Int) := (Int.natCast_mul a b).symm
  have hq0 : (a : Int) * (b : Int) / (c : Int) = ((a * b / c : Nat) : Int) := by rw [hmulc, ← Int.natCast_ediv]
  have hr0 : (a : Int) * (b : Int) % (c : Int) = ((a * b % c : Nat) : Int) := by rw [hmulc, ← Int.natCast_emod]
  by_cases hlt : hi < c
  · have hD := bits_Div64 hi lo c hlol hlt hc w
    rw [hall] at hD
    have hdl : decide (c ≤ hi) = false := by simp; omega
    obtain ⟨q, hq⟩ : ∃ q, q = a * b / c := ⟨_, rfl⟩
    obtain ⟨r, hr⟩ : ∃ r, r = a * b % c := ⟨_, rfl⟩
    unfold DivPost at hD
    rw [← hq, ← hr] at hD
    rw [← hq] at hq0
    rw [← hr] at hr0
    have HD := Lib.hid hD; clear hD
    have hrl : (r : Int) < (c : Int) := by have := Nat.mod_lt (a * b) hc0; omega
    clear hq hr hall hlol hmulc
    by_cases hqM : (q : Int) ≤ 1125899906842624
    · have hO : overOk a b c := ⟨ia, ib, by omega, by rw [hq0]; exact hqM⟩
      obtain ⟨y1, y2, y3⟩ := over_yes hO
      rw [hq0] at y2
      rw [hr0] at y3
      have Y1 := Lib.hid y1; have Y2 := Lib.hid y2; have Y3 := Lib.hid y3
      clear y1 y2 y3 hO hq0 hr0
      go_enter Tryz.func121, Tryz.ntmps121
      go_wp2_with (first
        | (go_at_call 77; refine (part_Amount _ _).mono ?_; rintro e w' ⟨rfl, rfl⟩)
        | (go_at_call 154; refine (HM.out _).mono ?_; rintro e w' ⟨rfl, hw1⟩; have hw2 := hw1.symm; subst hw2; clear hw1)
        | (go_at_call 155; refine HD.out.mono ?_; rintro e w' ⟨rfl, k, hw1⟩; subst hw1))
      go_ret3
      refine ⟨?_, k, rfl⟩
      rw [Y1.out, Y2.out, Y3.out]
      rfl
    · have hO : ¬ overOk a b c := fun h => hqM (by rw [← hq0]; exact h.2.2.2)
      obtain ⟨y1, y2, y3⟩ := over_no hO
      have Y1 := Lib.hid y1; have Y2 := Lib.hid y2; have Y3 := Lib.hid y3
      clear y1 y2 y3 hO hq0 hr0
      go_enter Tryz.func121, Tryz.ntmps121
      go_wp2_with (first
        | (go_at_call 77; refine (part_Amount _ _).mono ?_; rintro e w' ⟨rfl, rfl⟩)
        | (go_at_call 154; refine (HM.out _).mono ?_; rintro e w' ⟨rfl, hw1⟩; have hw2 := hw1.symm; subst hw2; clear hw1)
        | (go_at_call 155; refine HD.out.mono ?_; rintro e w' ⟨rfl, k, hw1⟩; subst hw1))
      go_quiet (fail)
      go_wp2
      go_ret3
      refine ⟨?_, k + nq, by simp [World.drewN, Nat.add_assoc]⟩
      rw [Y1.out, Y2.out, Y3.out]
      rfl
  · have hO : ¬ overOk a b c := by
      intro h
      have h4 := h.2.2.2
      rw [hq0] at h4
      have : 18446744073709551616 ≤ a * b / c := by
        rw [Nat.le_div_iff_mul_le hc0, ← hall]
        have : c * 18446744073709551616 ≤ hi * 18446744073709551616 := Nat.mul_le_mul_right _ (Nat.le_of_not_lt hlt)
        omega
      omega
    have hdl : decide (c ≤ hi) = true := by simp; omega
    obtain ⟨y1, y2, y3⟩ := over_no hO
    have Y1 := Lib.hid y1; have Y2 := Lib.hid y2; have Y3 := Lib.hid y3
    clear y1 y2 y3 hO hq0 hr0 hall hlol hmulc hlt
    go_enter Tryz.func121, Tryz.ntmps121
    go_wp2_with (first
        | (go_at_call 77; refine (part_Amount _ _).mono ?_; rintro e w' ⟨rfl, rfl⟩)
        | (go_at_call 154; refine (HM.out _).mono ?_; rintro e w' ⟨rfl, hw1⟩; have hw2 := hw1.symm; subst hw2; clear hw1))
    go_quiet (fail)
    go_wp2
    go_ret3
    refine ⟨?_, nq, rfl⟩
    rw [Y1.out, Y2.out, Y3.out]
    rfl

/-- one of them is none that may be reckoned with -/
theorem over_out (A : Nat → Addr) (S : List Nat) (a b c : Int) (h : ¬ (amtB a = true ∧ amtB b = true ∧ amtB c = true ∧ c ≠ 0)) (w : World) (hE : Errs A S w) (h2 : 2 ∈ S) :
    Calls Tryz.prog 121 #[.int .i64 a, .int .i64 b, .int .i64 c] w (OverPost A a b c w) := by
  have g2 : w.cell? ⟨0, 0, none⟩ = some (.iface 235 (.pointer (some (A 2)))) := hE.cell 2 h2
  have hO : ¬ overOk a b c := fun ⟨x, y, z, _⟩ => h ⟨amtB_iff.2 x, amtB_iff.2 y, amtB_iff.2 (by omega), by omega⟩
  obtain ⟨y1, y2, y3⟩ := over_no hO
  have Y1 := Lib.hid y1; have Y2 := Lib.hid y2; have Y3 := Lib.hid y3
  clear y1 y2 y3 hO
  have hcases : amtB a = false ∨ (amtB a = true ∧ amtB b = false) ∨ (amtB a = true ∧ amtB b = true ∧ amtB c = false) ∨ (amtB a = true ∧ amtB b = true ∧ amtB c = true ∧ (c == 0) = true) := by
    cases h1 : amtB a <;> cases h2 : amtB b <;> cases h3 : amtB c <;> simp_all
  clear h
  rcases hcases with k1 | ⟨k1, k2⟩ | ⟨k1, k2, k3⟩ | ⟨k1, k2, k3, k4⟩
  all_goals
    go_enter Tryz.func121, Tryz.ntmps121
    go_wp2_with (go_at_call 77; refine (part_Amount _ _).mono ?_; rintro e w' ⟨rfl, rfl⟩)
    go_quiet (fail)
    go_wp2
    go_ret3
    refine ⟨?_, nq, rfl⟩
    rw [Y1.out, Y2.out, Y3.out]
    rfl

theorem part_over (A : Nat → Addr) (S : List Nat) (a b c : Int) (w : World) (hE : Errs A S w) (h2 : 2 ∈ S) :
    Calls Tryz.prog 121 #[.int .i64 a, .int .i64 b, .int .i64 c] w (OverPost A a b c w) := by
  by_cases h : amtB a = true ∧ amtB b = true ∧ amtB c = true ∧ c ≠ 0
  · obtain ⟨ha, hb, hc, hc0⟩ := h
    rw [amtB_iff] at ha hb hc
    obtain ⟨a, rfl⟩ := Int.eq_ofNat_of_zero_le ha.1
    obtain ⟨b, rfl⟩ := Int.eq_ofNat_of_zero_le hb.1
    obtain ⟨c, rfl⟩ := Int.eq_ofNat_of_zero_le hc.1
    exact over_in A S a b c (by omega) (by omega) (by omega) (by omega) w hE h2
  · exact over_out A S a b c h w hE h2

def DownPost (A : Nat → Addr) (a b c : Int) (w : World) (e : Ending) (w' : World) : Prop := e = .returned (.tuple #[.int .i64 (overN a b c), ev A (overC a b c)]) ∧ Dr w w'

theorem part_Down (A : Nat → Addr) (S : List Nat) (a b c : Int) (w : World) (hE : Errs A S w) (h2 : 2 ∈ S) :
    Calls Tryz.prog 99 #[.int .i64 a, .int .i64 b, .int .i64 c] w (DownPost A a b c w) := by
  have H := Lib.hid (part_over A S a b c w hE h2)
  go_enter Tryz.func99, Tryz.ntmps99
  go_wp2_with (go_at_call 121; refine H.out.mono ?_; rintro e w' ⟨rfl, hd⟩)
  go_ret2
  exact ⟨rfl, hd⟩

def UpPost (A : Nat → Addr) (a b c : Int) (w : World) (e : Ending) (w' : World) : Prop := e = .returned (.tuple #[.int .i64 (upN a b c), ev A (upC a b c)]) ∧ Dr w w'

theorem part_Up (A : Nat → Addr) (S : List Nat) (a b c : Int) (w : World) (hE : Errs A S w) (h2 : 2 ∈ S) :
    Calls Tryz.prog 128 #[.int .i64 a, .int .i64 b, .int .i64 c] w (UpPost A a b c w) := by
  have H := Lib.hid (part_over A S a b c w hE h2)
  have HE := Lib.hid hE; clear hE
  by_cases hO : overOk a b c
  · obtain ⟨y1, y2, y3⟩ := over_yes hO
    have hc1 : 1 ≤ c := hO.2.2.1.1
    have hq0 : 0 ≤ a * b / c := Int.ediv_nonneg (Int.mul_nonneg hO.1.1 hO.2.1.1) (by omega)
    have hr0 : 0 ≤ a * b % c := Int.emod_nonneg _ (by omega)
    have hq1 : a * b / c ≤ 1125899906842624 := hO.2.2.2
    obtain ⟨q, hq⟩ : ∃ q, q = a * b / c := ⟨_, rfl⟩
    obtain ⟨r, hr⟩ : ∃ r, r = a * b % c := ⟨_, rfl⟩
    have he : ev A (overC a b c) = .nilIface := by rw [y1]; rfl
    rw [← hq] at y2 hq0 hq1
    rw [← hr] at y3 hr0
    have Hq := Lib.hid hq; have Hr := Lib.hid hr
    clear hq hr y1
    have HO := Lib.hid hO; clear hO
    by_cases hz : r = 0
    · subst hz
      have hU : upOk a b c := ⟨HO.out, by rw [← Hr.out, ← Hq.out]; simpa using hq1⟩
      obtain ⟨u1, u2⟩ := up_yes hU
      rw [← Hr.out, ← Hq.out, if_pos rfl, Int.add_zero] at u2
      have U1 := Lib.hid u1; have U2 := Lib.hid u2
      clear u1 u2 hU
      go_enter Tryz.func128, Tryz.ntmps128
      go_wp2_with (go_at_call 121; refine H.out.mono ?_; rintro e w' ⟨rfl, hd⟩)
      go_ret2
      exact ⟨by rw [U1.out, U2.out]; rfl, hd⟩
    · have hr1 : 0 < r := by omega
      by_cases hl : q + 1 ≤ 1125899906842624
      · have hU : upOk a b c := ⟨HO.out, by rw [← Hr.out, ← Hq.out, if_neg hz]; exact hl⟩
        obtain ⟨u1, u2⟩ := up_yes hU
        rw [← Hr.out, ← Hq.out, if_neg hz] at u2
        have U1 := Lib.hid u1; have U2 := Lib.hid u2
        clear u1 u2 hU hz
        go_enter Tryz.func128, Tryz.ntmps128
        go_wp2_with (go_at_call 121; refine H.out.mono ?_; rintro e w' ⟨rfl, hd⟩)
        go_ret2
        exact ⟨by rw [U1.out, U2.out]; rfl, hd⟩
      · have hU : ¬ upOk a b c := fun h => hl (by have := h.2; rw [← Hr.out, ← Hq.out, if_neg hz] at this; exact this)
        obtain ⟨u1, u2⟩ := up_no hU
        have U1 := Lib.hid u1; have U2 := Lib.hid u2
        clear u1 u2 hU hz
        go_enter Tryz.func128, Tryz.ntmps128
        go_wp2_with (go_at_call 121; refine H.out.mono ?_; rintro e w' ⟨rfl, k, hk⟩; subst hk; have g2 : w.cell? ⟨0, 0, none⟩ = some (.iface 235 (.pointer (some (A 2)))) := HE.out.cell 2 h2)
        go_quiet (fail)
        go_wp2
        go_ret2
        exact ⟨by rw [U1.out, U2.out]; rfl, k + nq, by simp [World.drewN, Nat.add_assoc]⟩
  · obtain ⟨y1, y2, y3⟩ := over_no hO
    have he : ev A (overC a b c) = .iface 235 (.pointer (some (A 2))) := by rw [y1]; rfl
    obtain ⟨u1, u2⟩ := up_no (a := a) (b := b) (c := c) (fun h => hO h.1)
    have U1 := Lib.hid u1; have U2 := Lib.hid u2
    clear u1 u2 hO y1
    go_enter Tryz.func128, Tryz.ntmps128
    go_wp2_with (go_at_call 121; refine H.out.mono ?_; rintro e w' ⟨rfl, hd⟩)
    go_ret2
    exact ⟨by rw [U1.out, U2.out]; rfl, hd⟩
end Go.Proofs.YtajnfkmkombajabGreatDoor
namespace Go.Proofs.YtajnfkmkombajabGreatDoor
open Go.RowKit Go.Maps

theorem keyI : Keyed Tryz.prog 3 := int_keyed Tryz.underlying3
theorem zeroI (w : World) : (zeroValue 3).run Tryz.prog w = .ok (.int .i64 0) w := by kernel_rfl

/-- block b is a pool that holds q, its shares lie in the map in block mb (which has had at most n entries) -/
structure PoolAt (b mb n : Nat) (q : QS) (w : World) : Prop where
  ok : q.Ok
  row : RowAt b 131 [.int .i64 q.total, .int .i64 q.all, .map (some mb)] w
  own : ∃ D : DataW Unit, w.ownsMap Tryz.prog 3 (plainElem Tryz.prog 3) mb n D ∧ ∀ o : Int, D.atKey (.int .i64 o) (.lit (.int .i64 0)) = .lit (.int .i64 (q.at o))
  ne : b ≠ mb
theorem PoolAt.c0 {b mb n : Nat} {q : QS} {w : World} (h : PoolAt b mb n q w) : w.cell? ⟨b, 0, none⟩ = some (.int .i64 q.total) := by rw [h.row.cell]; rfl
theorem PoolAt.c1 {b mb n : Nat} {q : QS} {w : World} (h : PoolAt b mb n q w) : w.cell? ⟨b, 1, none⟩ = some (.int .i64 q.all) := by rw [h.row.cell]; rfl
theorem PoolAt.c2 {b mb n : Nat} {q : QS} {w : World} (h : PoolAt b mb n q w) : w.cell? ⟨b, 2, none⟩ = some (.map (some mb)) := by rw [h.row.cell]; rfl
theorem PoolAt.drewN {b mb n : Nat} {q : QS} {w : World} (h : PoolAt b mb n q w) (k : Nat) : PoolAt b mb n q (w.drewN k) := ⟨h.ok, h.row.drewN k, h.own, h.ne⟩

theorem pool_Total (b mb n : Nat) (q : QS) (w : World) (h : PoolAt b mb n q w) : Calls Tryz.prog 80 #[.pointer (some ⟨b, 0, none⟩)] w fun e w' => e = .returned (.int .i64 q.total) ∧ w = w' := by
  have c0 := h.c0
  clear h
  go_enter Tryz.func80, Tryz.ntmps80
  go_wp2
  go_ret
  exact ⟨rfl, rfl⟩
theorem pool_New (w : World) : Calls Tryz.prog 30 #[] w fun e w' => ∃ mb, e = .returned (.pointer (some ⟨w.heap.size + 1, 0, none⟩)) ∧ Below w.heap.size w w' ∧ w.heap.size ≤ mb ∧ PoolAt (w.heap.size + 1) mb 0 QS.new w' := by
  have hmm := @run_makeMap Tryz.prog
  go_enter Tryz.func30, Tryz.ntmps30
  go_wp2
  go_ret
  refine ⟨w.heap.size, by simp, ((Below.refl _ _).alloc (Nat.le_refl _) _).alloc (by simp) _, Nat.le_refl _, QS.new_ok, ?_, ⟨.map [], (World.ownsMap_made w _ _ _).alloc _, fun o => ?_⟩, by omega⟩
  · have := RowAt.new (w.alloc (.map #[] 0)) 131 [.int .i64 0, .int .i64 0, .map (some w.heap.size)]
    have hs : (w.alloc (.map #[] 0)).heap.size = w.heap.size + 1 := by simp
    rw [hs] at this
    exact this
  · rw [atKey_of_not_has (by rfl)]
    unfold QS.at QS.new
    split
    · next ho => obtain ⟨h0, h6⟩ := ownB_iff.1 ho; obtain ⟨k, rfl⟩ := Int.eq_ofNat_of_zero_le h0; match k, h6 with | 0, _ => rfl | 1, _ => rfl | 2, _ => rfl | 3, _ => rfl | 4, _ => rfl | 5, _ => rfl
    · rfl

theorem pool_look (A : Nat → Addr) (S : List Nat) (o n : Int) (w : World) (hE : Errs A S w) (h2 : 2 ∈ S) :
    Calls Tryz.prog 98 #[.int .i64 o, .int .i64 n] w fun e w' => e = .returned (ev A (plookC o n)) ∧ w = w' := by
  have g2 : w.cell? ⟨0, 0, none⟩ = some (.iface 235 (.pointer (some (A 2)))) := hE.cell 2 h2
  clear hE
  by_cases hc : plookC o n = 0
  · obtain ⟨ho, h3, h4⟩ := plookC_zero.1 hc
    obtain ⟨h1, h2'⟩ := ownB_iff.1 ho
    have H := Lib.hid (show ev A (plookC o n) = .nilIface by rw [hc]; rfl)
    clear hc ho
    go_enter Tryz.func98, Tryz.ntmps98
    go_wp2
    go_ret
    exact ⟨by rw [H.out]; rfl, rfl⟩
  · have h22 : plookC o n = 2 := by unfold plookC at hc ⊢; split at hc <;> simp_all
    have H := Lib.hid (show ev A (plookC o n) = .iface 235 (.pointer (some (A 2))) by rw [h22]; rfl)
    have hcases : o < 0 ∨ (0 ≤ o ∧ 6 ≤ o) ∨ (0 ≤ o ∧ o < 6 ∧ n < 1) ∨ (0 ≤ o ∧ o < 6 ∧ 1 ≤ n ∧ 1125899906842624 < n) := by
      have : ¬ (ownB o = true ∧ 1 ≤ n ∧ n ≤ 1125899906842624) := fun h => hc (plookC_zero.2 h)
      rw [ownB_iff] at this; omega
    clear hc h22
    rcases hcases with h1 | ⟨h1, h2'⟩ | ⟨h1, h2', h3⟩ | ⟨h1, h2', h3, h4⟩
    all_goals
      go_enter Tryz.func98, Tryz.ntmps98
      go_wp2
      go_ret
      exact ⟨by rw [H.out]; rfl, rfl⟩

/-- the pool in blocks b and mb may have turned; it holds q then -/
def PoolP (b mb n : Nat) (q : QS) (w w' : World) : Prop := Keep (fun k => k = b ∨ k = mb) w w' ∧ PoolAt b mb n q w'
theorem PoolP.refl {b mb n : Nat} {q : QS} {w : World} (h : PoolAt b mb n q w) : PoolP b mb n q w w := ⟨Keep.refl _ _, h⟩
theorem PoolP.trans {b mb n m : Nat} {p q : QS} {w w1 w2 : World} (h : PoolP b mb n p w w1) (k : PoolP b mb m q w1 w2) : PoolP b mb m q w w2 := ⟨h.1.trans k.1, k.2⟩
theorem PoolAt.mono {b mb n m : Nat} {q : QS} {w : World} (h : PoolAt b mb n q w) (hm : n ≤ m) : PoolAt b mb m q w := by
  obtain ⟨D, h1, h2⟩ := h.own
  exact ⟨h.ok, h.row, ⟨D, h1.mono hm, h2⟩, h.ne⟩
theorem PoolAt.lt {b mb n : Nat} {q : QS} {w : World} (h : PoolAt b mb n q w) : b < w.heap.size ∧ mb < w.heap.size := by
  obtain ⟨D, h1, h2⟩ := h.own
  exact ⟨h.row.lt, h1.lt⟩
theorem PoolAt.keep {F : Nat → Prop} {b mb n : Nat} {q : QS} {w w' : World} (h : PoolAt b mb n q w) (k : Keep F w w') (hb : ¬ F b) (hm : ¬ F mb) : PoolAt b mb n q w' := by
  obtain ⟨D, h1, h2⟩ := h.own
  refine ⟨h.ok, h.row.keep k hb, ⟨D, ?_, h2⟩, h.ne⟩
  obtain ⟨es, clock, e1, e2⟩ := h1
  exact ⟨es, clock, k.heap e1 hm, e2⟩
theorem PoolAt.below {B b mb n : Nat} {q : QS} {w w' : World} (h : PoolAt b mb n q w) (k : Below B w w') (hb : b < B) (hm : mb < B) : PoolAt b mb n q w' := by
  obtain ⟨D, h1, h2⟩ := h.own
  refine ⟨h.ok, h.row.below k hb, ⟨D, ?_, h2⟩, h.ne⟩
  obtain ⟨es, clock, e1, e2⟩ := h1
  exact ⟨es, clock, below_heap k e1 hm, e2⟩

theorem pool_Value (A : Nat → Addr) (S : List Nat) (b mb n : Nat) (q : QS) (o : Int) (w : World) (hE : Errs A S w) (h2 : 2 ∈ S) (h : PoolAt b mb n q w) (ho : (Lit.int .i64 o).wf = true) :
    Calls Tryz.prog 94 #[.pointer (some ⟨b, 0, none⟩), .int .i64 o] w fun e w' => e = .returned (.int .i64 (q.value o)) ∧ Dr w w' := by
  have c0 := h.c0
  have c1 := h.c1
  have c2 := h.c2
  have HE := Lib.hid hE; clear hE
  by_cases h0 : q.all = 0
  · have HV := Lib.hid (QS.Ok.value_nil h0 o)
    rw [h0] at c1
    clear h h0
    go_enter Tryz.func94, Tryz.ntmps94
    go_wp2
    go_ret
    exact ⟨by rw [HV.out]; rfl, Dr.refl _⟩
  · have hv : q.value o = overN (q.at o) q.total q.all := by unfold QS.value; rw [if_neg h0]
    have HV := Lib.hid hv; clear hv
    have hz : (q.all == 0) = false := by simp [h0]
    obtain ⟨D, hown, hat⟩ := h.own
    have hlk : ∀ k : Nat, (Instr.lookup 129 (.map (some mb)) (.int .i64 o) false).run Tryz.prog (w.drewN k) = .ok (.int .i64 (q.at o)) (w.drewN k) := fun k => by
      obtain ⟨c, hrun, hc, _⟩ := (show (w.drewN k).ownsMap Tryz.prog 3 (plainElem Tryz.prog 3) mb n D from hown).lookup_int keyI Tryz.underlying129 Tryz.underlying3 (zeroI _) (keyOf_int_mk Tryz.underlying3 ho)
      have hco : c = q.at o := by have := hc.symm.trans (hat o); simpa using this
      rw [← hco]; exact hrun
    have hlk0 := hlk 0
    clear h h0 hown hat
    go_enter Tryz.func94, Tryz.ntmps94
    go_wp2_with fail
    go_quiet ((go_at_call 99; exact Calls.quiet_of ((part_Down A S _ _ _ _ (HE.out.drewN _) h2).mono fun _ _ ⟨a, k, b⟩ => ⟨a, k, b.symm⟩)))
    go_wp2
    go_ret
    exact ⟨by rw [HV.out]; rfl, nq, rfl⟩

theorem turned_cell {w w' : World} {mb b i : Nat} (h : w.mapTurned w' mb) (hb : b < w.heap.size) (hne : b ≠ mb) : w'.cell? ⟨b, i, none⟩ = w.cell? ⟨b, i, none⟩ :=
  World.cell?_of_block (w := w) (h.grown.block b hb (fun e => hne (by simpa using e)))

/-- what is left behind change -/
theorem pool_changed {b mb n : Nat} {q : QS} {o s m : Int} {w w2 : World} {D' : DataW Unit} (h : PoolAt b mb n q w) (ho : ownB o = true) (hok : (q.change o s m).Ok)
    (hg : ((w.setCell ⟨b, 0, none⟩ (.int .i64 (q.total + m))).setCell ⟨b, 1, none⟩ (.int .i64 (q.all + s))).mapTurned w2 mb) (hown : w2.ownsMap Tryz.prog 3 (plainElem Tryz.prog 3) mb (n + 1) D')
    (hat : ∀ k : Int, D'.atKey (.int .i64 k) (.lit (.int .i64 0)) = .lit (.int .i64 (if k = o then q.at o + s else q.at k))) : PoolP b mb (n + 1) (q.change o s m) w w2 := by
  have hr := (h.row.set 0 (.int .i64 (q.total + m))).set 1 (.int .i64 (q.all + s))
  have hk : Keep (fun k => k = b ∨ k = mb) w ((w.setCell ⟨b, 0, none⟩ (.int .i64 (q.total + m))).setCell ⟨b, 1, none⟩ (.int .i64 (q.all + s))) :=
    ((Keep.refl _ _).setCell (p := ⟨b, 0, none⟩) (.inl (.inl rfl)) _).setCell (p := ⟨b, 1, none⟩) (.inl (.inl rfl)) _
  refine ⟨hk.grown hg.grown (fun k hk => .inl (.inr (by simpa using hk.symm))), hok, ?_, ⟨D', hown, fun k => by rw [hat k, QS.at_change h.ok ho]⟩, h.ne⟩
  exact (hg.grown.block b hr.lt (fun e => h.ne (by simpa using e))).trans hr

set_option maxRecDepth 8000 in
set_option maxHeartbeats 1000000 in
/-- owner o's shares in the map, n entries more at most -/
theorem pool_change (b mb n : Nat) (q : QS) (o s m : Int) (w : World) (h : PoolAt b mb n q w) (ho : ownB o = true) (hok : (q.change o s m).Ok) (hs : -1125899906842624 ≤ s ∧ s ≤ 1125899906842624) (hm : -1125899906842624 ≤ m ∧ m ≤ 1125899906842624) (hn : n < maxLen) :
    Calls Tryz.prog 100 #[.pointer (some ⟨b, 0, none⟩), .int .i64 o, .int .i64 s, .int .i64 m] w fun e w' => e = .returned (.tuple #[]) ∧ PoolP b mb (n + 1) (q.change o s m) w w' := by
  have c0 := h.c0
  have c1 := h.c1
  have c2 := h.c2
  have f0 := h.row.frozen 0
  have f1 := h.row.frozen 1
  have hlt := h.lt.1
  have hnemb := h.ne
  obtain ⟨D, hown, hat⟩ := h.own
  obtain ⟨o0, o1⟩ := ownB_iff.1 ho
  have hkey : keyOf Tryz.prog 3 (.int .i64 o) = some (.int .i64 o) := keyOf_int_mk Tryz.underlying3 (WalkArith.wf_i64 (by omega))
  have hisk : WideAt.IsKeyLit (.int .i64 o) := keyI.key hkey
  have hisM := hown.isMap
  have b1 := h.ok.at_bd o
  have b2 := h.ok.a1
  have b3 := h.ok.t0
  have b4 := h.ok.t1
  have hato := hat o
  have HC := Lib.hid (fun (w2 : World) (D' : DataW Unit) => @pool_changed b mb n q o s m w w2 D' h ho hok)
  have HAT := Lib.hid hat
  have HO := Lib.hid (fun u v => (hown.setCell (a := ⟨b, 0, none⟩) (by exact fun e => hnemb e.symm) u).setCell (a := ⟨b, 1, none⟩) (by exact fun e => hnemb e.symm) v)
  clear h hok ho hat hown
  generalize hT : q.total = T at *
  generalize hA : q.all = U at *
  generalize hX : q.at o = X at *
  have hwf : (Lit.int .i64 (X + s)).wf = true := WalkArith.wf_i64 (by omega)
  clear hT hA
  have ho1 := HO.out (.int .i64 (T + m)) (.int .i64 (U + s))
  obtain ⟨c, l1, hc, _⟩ := ho1.lookup_int keyI Tryz.underlying129 Tryz.underlying3 (zeroI _) hkey
  obtain rfl : X = c := by have := hato.symm.trans hc; simpa using this
  obtain ⟨w2, s2, hown2, hturn2⟩ := ho1.store keyI Tryz.underlying129 hn hkey (plainElem_int Tryz.underlying3 hwf)
  have c3 : w2.cell? ⟨b, 2, none⟩ = some (.map (some mb)) := (turned_cell (b := b) (i := 2) hturn2 (by simpa [World.setCell] using hlt) hnemb).trans (by simpa [go_sem] using c2)
  obtain ⟨c', l2, hc', _⟩ := hown2.lookup_int keyI Tryz.underlying129 Tryz.underlying3 (zeroI _) hkey
  obtain rfl : X + s = c' := by have := (Maps.atKey_put_same hisM hisk _ _).symm.trans hc'; simpa using this
  have hlt2 : b < w2.heap.size := Nat.lt_of_lt_of_le (by simpa [World.setCell] using hlt) hturn2.grown.size
  have HT2 := Lib.hid hturn2; have HW2 := Lib.hid hown2
  clear ho1 hc hc' hturn2 hown2 hwf
  by_cases hz : X + s = 0
  · have hz' : (X + s == 0) = true := by simp [hz]
    have HZ := Lib.hid hz; clear hz
    obtain ⟨w3, d3, hown3, hturn3⟩ := HW2.out.drop keyI Tryz.underlying129 hkey 0
    have HT3 := Lib.hid hturn3; have HW3 := Lib.hid hown3
    clear hturn3 hown3
    go_enter Tryz.func100, Tryz.ntmps100
    go_wp2
    go_end0
    refine ⟨rfl, HC.out _ _ (HT2.out.trans HT3.out) HW3.out fun k => ?_⟩
    by_cases hk : k = o
    · subst hk; rw [if_pos rfl, Maps.atKey_del_same, HZ.out]
    · rw [if_neg hk, Maps.atKey_del_other (by simpa using hk), Maps.atKey_put_other (by simpa using hk)]; exact HAT.out k
  · have hz' : (X + s == 0) = false := by simp [hz]
    have HZ := Lib.hid hz; clear hz
    go_enter Tryz.func100, Tryz.ntmps100
    go_wp2
    go_end0
    refine ⟨rfl, HC.out _ _ HT2.out HW2.out fun k => ?_⟩
    by_cases hk : k = o
    · subst hk; rw [if_pos rfl, Maps.atKey_put_same hisM hisk]
    · rw [if_neg hk, Maps.atKey_put_other (by simpa using hk)]; exact HAT.out k
end Go.Proofs.YtajnfkmkombajabGreatDoor
