/- The walk of math/bits.Div64. -/
import Derived.Test.YtajnfkmkombajacDoorShelf
import Derived.Test.YtajnfkmkombajacDoorPlDiv
import Derived.Test.YtajnfkmkombajacDoorBase
import Derived.Deep.QuietTactic
import Derived.BigQuiet
import Derived.Deep.DeepCutAuto
import Derived.Deep.CutBlock
import Derived.Outline
set_option linter.unusedVariables false
set_option linter.unusedSimpArgs false
namespace Go.Proofs.YtajnfkmkombajacDoor
open Go.RowKit

set_option maxRecDepth 100000 in
set_option maxHeartbeats 2000000 in
theorem div64_great (hi lo y s Y y1 y0 h' l' u t u1 u0 : Nat) (D : DivPrep hi lo y s Y y1 y0 h' l' u t u1 u0) (hs : Lib.bitLen y + s = 64) (h0 : 0 < hi) (hlo : lo < 18446744073709551616) (hy : hi < y) (hyM : y ≤ 1125899906842624) (hs1 : 13 ≤ s) (hs2 : s ≤ 63) (w : World) :
    Calls Tryd.prog 94 #[.int .u64 hi, .int .u64 lo, .int .u64 y] w fun e w' => e = .returned (.tuple #[.int .u64 (((hi * 18446744073709551616 + lo) / y : Nat) : Int), .int .u64 (((hi * 18446744073709551616 + lo) % y : Nat) : Int)]) ∧ w = w' := by
  have e1 : ((y : Int) == 0) = false := by simp; omega
  have e2 : ((hi : Int) == 0) = false := by simp; omega
  have e3 : (64 - (Lib.bitLen (y : Int).toNat : Int)) = (s : Int) := by simp; omega
  have E3 := Lib.hid e3; clear e3
  clear hs
  have HD := Lib.hid D
  obtain ⟨a1, a2, a3, a4, a5, a6, a7, a8, a9, y0lt, y1ge, y1lt, Yeq, ult, u1lt, u0lt, Ys, all⟩ := D
  have N1 : Hid ((y0 : Int) < 4294967296) := (by unfold B32 at y0lt; omega : (y0 : Int) < 4294967296)
  have N2 : Hid ((y1 : Int) < 4294967296) := (by unfold B32 at y1lt; omega : (y1 : Int) < 4294967296)
  have N3 : Hid ((u1 : Int) < 4294967296) := (by unfold B32 at u1lt; omega : (u1 : Int) < 4294967296)
  have N4 : Hid ((u0 : Int) < 4294967296) := (by unfold B32 at u0lt; omega : (u0 : Int) < 4294967296)
  have N6 : Hid ((2147483648 : Int) ≤ (y1 : Int)) := (by omega : (2147483648 : Int) ≤ (y1 : Int))
  clear Yeq ult Ys all y0lt y1ge y1lt u1lt u0lt
  have hy1p : (1 : Int) ≤ (y1 : Int) := by have := N6.out; omega
  have hy1n : ((y1 : Int) = 0) = False := by simp; omega
  have hu64 : u < 18446744073709551616 := by have := HD.out.Yeq; have := HD.out.ult; have := HD.out.y0lt; have := HD.out.y1lt; unfold B32 at *; omega
  obtain ⟨qi, hqi⟩ : ∃ qi, qi = u / y1 := ⟨_, rfl⟩
  obtain ⟨ri, hri0⟩ : ∃ ri, ri = u % y1 := ⟨_, rfl⟩
  have b1 : IntKind.u64.wrap ((u : Int) / (y1 : Int)) = (qi : Int) := by rw [hqi]; exact u64_quo u y1 hu64
  have b2 : IntKind.u64.wrap ((u : Int) - IntKind.u64.wrap ((qi : Int) * (y1 : Int))) = (ri : Int) := by rw [hqi, hri0]; exact u64_rem u y1 hu64
  have HU : Hid (u < y1 * B32 + y0) := by have := HD.out.Yeq; have := HD.out.ult; exact (by omega : u < y1 * B32 + y0)
  have HI : Hid (KInv y1 y0 u u1 qi ri) := by rw [hqi, hri0]; exact k_start HD.out.y1ge HD.out.y0lt HU.out HD.out.u1lt
  have hri : ri < 4294967296 := by have : u % y1 < y1 := Nat.mod_lt _ (by omega); have := N2.out; omega
  obtain ⟨Q, hQ⟩ : ∃ Q, Q = (u * B32 + u1) / Y := ⟨_, rfl⟩
  have HQ := Lib.hid hQ; clear hQ hqi hri0
  have d1 : decide (y ≤ hi) = false := by simp; omega
  have Hri := Lib.hid hri
  have hyI : (y : Int) ≤ 1125899906842624 := by omega
  have HyI := Lib.hid hyI
  have hy0 : (0 : Int) ≤ (y : Int) := by omega
  clear hri hu64 hyM hlo hyI
  go_enter Tryd.func94, Tryd.ntmps94
  go_upto_block 0 with (go_at_call 115; refine (Tryd.bits_LeadingZeros64 _ _ hy0 (by have := HyI.out; omega)).mono ?_; rintro e w' ⟨rfl, hww⟩; rw [E3.out])
  have hww2 := hww.symm
  subst hww2
  clear hww
  go_cut [15, 16] (fun a _ wx => a = .int .u64 Q ∧ w = wx)
  case first =>
    go_wp2_with fail
    have n1 := N1.out
    have n2 := N2.out
    have n3 := N3.out
    have n6 := N6.out
    go_loop [15, 16] (fun a b => KRel y1 y0 u u1 a b) (fun a _ => kmeas a)
    case atStart => exact ⟨_, _, HI.out, by have := Hri.out; omega, rfl, rfl⟩
    case round =>
      obtain ⟨q, r, I, hr, rfl, rfl⟩ := hrel
      have hle := I.le
      have HIr := Lib.hid I; clear I
      have hle2 : (q : Int) ≤ 4294967297 := by unfold B32 at hle; omega
      clear hle
      by_cases hq : (4294967296 : Int) ≤ (q : Int)
      · obtain ⟨p1, I2, p2⟩ := k_step HD.out.y1ge HU.out HD.out.u1lt HIr.out (.inl (by unfold B32; omega))
        have HI2 := Lib.hid I2; clear I2
        have hp1 : (1 : Int) ≤ (q : Int) := by omega
        have Hp2 := Lib.hid p2; clear p2 p1
        by_cases hr2 : (4294967296 : Int) ≤ (r : Int) + (y1 : Int)
        · have HqQ : Hid (((q : Int) - 1) = (Q : Int)) := by
            have := k_break (by have := HU.out; omega) HD.out.y0lt Hp2.out (by unfold B32; omega) HI2.out
            exact (by rw [HQ.out, HD.out.Yeq, ← this]; omega : ((q : Int) - 1) = (Q : Int))
          go_wp2_with (go_meet; exact ⟨by rw [HqQ.out], rfl⟩)
        · have HN := Lib.hid (krel_next HI2.out hr2 hp1)
          go_wp2_with fail
          exact HN.out
      · have hqn : (q : Int) < 4294967296 := by omega
        have hp := u64_mul' q y0 (by have := Nat.mul_lt_mul'' (show q < 4294967296 by omega) (show y0 < 4294967296 by omega); exact this)
        have hdq : decide ((4294967296 : Int) ≤ (q : Int)) = false := by simp; omega
        by_cases ht : (4294967296 : Int) * (r : Int) + (u1 : Int) < (q : Int) * (y0 : Int)
        · have hdt : decide ((4294967296 : Int) * (r : Int) + (u1 : Int) < (q : Int) * (y0 : Int)) = true := by simp only [decide_eq_true_eq]; exact ht
          obtain ⟨p1, I2, p2⟩ := k_step HD.out.y1ge HU.out HD.out.u1lt HIr.out (.inr (cast_lt ht))
          have HI2 := Lib.hid I2; clear I2
          have hp1 : (1 : Int) ≤ (q : Int) := by omega
          have Hp2 := Lib.hid p2; clear p2 p1
          by_cases hr2 : (4294967296 : Int) ≤ (r : Int) + (y1 : Int)
          · have HqQ : Hid (((q : Int) - 1) = (Q : Int)) := by
              have := k_break (by have := HU.out; omega) HD.out.y0lt Hp2.out (by unfold B32; omega) HI2.out
              exact (by rw [HQ.out, HD.out.Yeq, ← this]; omega : ((q : Int) - 1) = (Q : Int))
            go_wp2_with (go_meet; exact ⟨by rw [HqQ.out], rfl⟩)
          · have HN := Lib.hid (krel_next HI2.out hr2 hp1)
            go_wp2_with fail
            exact HN.out
        · have hdt : decide ((4294967296 : Int) * (r : Int) + (u1 : Int) < (q : Int) * (y0 : Int)) = false := by simp only [decide_eq_false_iff_not]; exact ht
          have HqQ : Hid ((q : Int) = (Q : Int)) := by
            have := k_end (by have := HU.out; omega) HIr.out (cast_le ht)
            exact (by rw [HQ.out, HD.out.Yeq, ← this] : (q : Int) = (Q : Int))
          go_wp2_with (go_meet; exact ⟨by rw [HqQ.out], rfl⟩)
  case rest =>
    obtain ⟨rfl, rfl⟩ := hcut
    have N5 : Hid (Y < 18446744073709551616) := (by have := HD.out.Yeq; have := HD.out.y0lt; have := HD.out.y1lt; unfold B32 at *; omega : Y < 18446744073709551616)
    have N7 : Hid (0 < Y) := (by have := HD.out.ult; omega : 0 < Y)
    obtain ⟨u21, hu21⟩ : ∃ u21, u21 = (u * B32 + u1) % Y := ⟨_, rfl⟩
    have c1 : IntKind.u64.wrap (IntKind.u64.wrap (IntKind.u64.wrap ((u : Int) * 4294967296) + (u1 : Int)) - IntKind.u64.wrap ((Q : Int) * (Y : Int))) = (u21 : Int) := by rw [hu21]; exact u64_left u u1 Q Y N5.out N7.out HQ.out
    have HU2 : Hid (u21 < y1 * B32 + y0) := by
      have h := Nat.mod_lt (u * B32 + u1) N7.out
      rw [← hu21] at h
      have := HD.out.Yeq
      exact (by omega : u21 < y1 * B32 + y0)
    have hu21l : u21 < 18446744073709551616 := by have := HD.out.Yeq; have := HU2.out; have := N5.out; omega
    obtain ⟨qj, hqj⟩ : ∃ qj, qj = u21 / y1 := ⟨_, rfl⟩
    obtain ⟨rj, hrj0⟩ : ∃ rj, rj = u21 % y1 := ⟨_, rfl⟩
    have d1 : IntKind.u64.wrap ((u21 : Int) / (y1 : Int)) = (qj : Int) := by rw [hqj]; exact u64_quo u21 y1 hu21l
    have d2 : IntKind.u64.wrap ((u21 : Int) - IntKind.u64.wrap ((qj : Int) * (y1 : Int))) = (rj : Int) := by rw [hqj, hrj0]; exact u64_rem u21 y1 hu21l
    have HI' : Hid (KInv y1 y0 u21 u0 qj rj) := by rw [hqj, hrj0]; exact k_start HD.out.y1ge HD.out.y0lt HU2.out HD.out.u0lt
    have Hri' : Hid (rj < 4294967296) := (by have : u21 % y1 < y1 := Nat.mod_lt _ (by have := N6.out; omega); have := N2.out; omega : rj < 4294967296)
    obtain ⟨Q2, hQ2⟩ : ∃ Q2, Q2 = (u21 * B32 + u0) / Y := ⟨_, rfl⟩
    have HQ2 := Lib.hid hQ2; clear hQ2 hqj hrj0
    have HU21 := Lib.hid hu21; clear hu21 hu21l
    go_upto_block 2 with fail
    go_cut [18, 16] (fun a _ wx => a = .int .u64 Q2 ∧ w = wx)
    case first =>
      go_wp2_with fail
      have n1 := N1.out
      have n2 := N2.out
      have n4 := N4.out
      have n6 := N6.out
      go_loop [18, 16] (fun a b => KRel y1 y0 u21 u0 a b) (fun a _ => kmeas a)
      case atStart => exact ⟨_, _, HI'.out, by have := Hri'.out; omega, rfl, rfl⟩
      case round =>
        obtain ⟨q, r, I, hr, rfl, rfl⟩ := hrel
        have hle := I.le
        have HIr := Lib.hid I; clear I
        have hle2 : (q : Int) ≤ 4294967297 := by unfold B32 at hle; omega
        clear hle
        by_cases hq : (4294967296 : Int) ≤ (q : Int)
        · obtain ⟨p1, I2, p2⟩ := k_step HD.out.y1ge HU2.out HD.out.u0lt HIr.out (.inl (by unfold B32; omega))
          have HI2 := Lib.hid I2; clear I2
          have hp1 : (1 : Int) ≤ (q : Int) := by omega
          have Hp2 := Lib.hid p2; clear p2 p1
          by_cases hr2 : (4294967296 : Int) ≤ (r : Int) + (y1 : Int)
          · have HqQ : Hid (((q : Int) - 1) = (Q2 : Int)) := by
              have := k_break (by have := HU2.out; omega) HD.out.y0lt Hp2.out (by unfold B32; omega) HI2.out
              exact (by rw [HQ2.out, HD.out.Yeq, ← this]; omega : ((q : Int) - 1) = (Q2 : Int))
            go_wp2_with (go_meet; exact ⟨by rw [HqQ.out], rfl⟩)
          · have HN := Lib.hid (krel_next HI2.out hr2 hp1)
            go_wp2_with fail
            exact HN.out
        · have hqn : (q : Int) < 4294967296 := by omega
          have hp := u64_mul' q y0 (by have := Nat.mul_lt_mul'' (show q < 4294967296 by omega) (show y0 < 4294967296 by omega); exact this)
          have hdq : decide ((4294967296 : Int) ≤ (q : Int)) = false := by simp; omega
          by_cases ht : (4294967296 : Int) * (r : Int) + (u0 : Int) < (q : Int) * (y0 : Int)
          · have hdt : decide ((4294967296 : Int) * (r : Int) + (u0 : Int) < (q : Int) * (y0 : Int)) = true := by simp only [decide_eq_true_eq]; exact ht
            obtain ⟨p1, I2, p2⟩ := k_step HD.out.y1ge HU2.out HD.out.u0lt HIr.out (.inr (cast_lt ht))
            have HI2 := Lib.hid I2; clear I2
            have hp1 : (1 : Int) ≤ (q : Int) := by omega
            have Hp2 := Lib.hid p2; clear p2 p1
            by_cases hr2 : (4294967296 : Int) ≤ (r : Int) + (y1 : Int)
            · have HqQ : Hid (((q : Int) - 1) = (Q2 : Int)) := by
                have := k_break (by have := HU2.out; omega) HD.out.y0lt Hp2.out (by unfold B32; omega) HI2.out
                exact (by rw [HQ2.out, HD.out.Yeq, ← this]; omega : ((q : Int) - 1) = (Q2 : Int))
              go_wp2_with (go_meet; exact ⟨by rw [HqQ.out], rfl⟩)
            · have HN := Lib.hid (krel_next HI2.out hr2 hp1)
              go_wp2_with fail
              exact HN.out
          · have hdt : decide ((4294967296 : Int) * (r : Int) + (u0 : Int) < (q : Int) * (y0 : Int)) = false := by simp only [decide_eq_false_iff_not]; exact ht
            have HqQ : Hid ((q : Int) = (Q2 : Int)) := by
              have := k_end (by have := HU2.out; omega) HIr.out (cast_le ht)
              exact (by rw [HQ2.out, HD.out.Yeq, ← this] : (q : Int) = (Q2 : Int))
            go_wp2_with (go_meet; exact ⟨by rw [HqQ.out], rfl⟩)
    case rest =>
      obtain ⟨rfl, rfl⟩ := hcut
      have f1 : IntKind.u64.wrap (IntKind.u64.wrap (IntKind.u64.wrap ((u21 : Int) * 4294967296) + (u0 : Int)) - IntKind.u64.wrap ((Q2 : Int) * (Y : Int))) = (((u21 * B32 + u0) % Y : Nat) : Int) := u64_left u21 u0 Q2 Y N5.out N7.out HQ2.out
      obtain ⟨R, hR⟩ : ∃ R, R = (u21 * B32 + u0) % Y := ⟨_, rfl⟩
      rw [← hR] at f1
      have HR := Lib.hid hR; clear hR
      have g1 : (Q : Int) < 4294967296 := by
        have := k_q_lt (by have := HU.out; omega) HU.out HD.out.u1lt
        rw [← HD.out.Yeq, ← HQ.out] at this; unfold B32 at this; omega
      have g2 : (Q2 : Int) < 4294967296 := by
        have := k_q_lt (by have := HU2.out; omega) HU2.out HD.out.u0lt
        rw [← HD.out.Yeq, ← HQ2.out] at this; unfold B32 at this; omega
      obtain ⟨k1, k2⟩ := div_fin HD.out N7.out HQ.out HU21.out HQ2.out HR.out
      have K1 := Lib.hid k1
      have K2 := Lib.hid k2
      clear k1 k2
      go_wp2_with fail
      go_ret2
      refine ⟨?_, rfl⟩
      rw [← K1.out, ← K2.out]
      rfl
/-- math/bits.Div64: two words over one that is an amount -/
def DivPost (n y : Nat) (w : World) (e : Ending) (w' : World) : Prop := e = .returned (.tuple #[.int .u64 ((n / y : Nat) : Int), .int .u64 ((n % y : Nat) : Int)]) ∧ ∃ k, w.drewN k = w'

theorem div64_small (lo y : Nat) (hlo : lo < 18446744073709551616) (hy : 0 < y) (hyM : y ≤ 1125899906842624) (w : World) :
    Calls Tryd.prog 94 #[.int .u64 0, .int .u64 lo, .int .u64 y] w (DivPost lo y w) := by
  have e1 : ((y : Int) == 0) = false := by simp; omega
  have d1 : decide (y ≤ 0) = false := by simp; omega
  have e2 : IntKind.u64.wrap ((lo : Int) / (y : Int)) = ((lo / y : Nat) : Int) := u64_quo lo y hlo
  have hlt : lo / y < 18446744073709551616 := Nat.lt_of_le_of_lt (Nat.div_le_self _ _) hlo
  have hy1 : (1 : Int) ≤ (y : Int) := by omega
  have hy2 : ((y : Int) = 0) = False := by simp; omega
  clear hlt hlo hyM
  go_enter Tryd.func94, Tryd.ntmps94
  go_wp2_with fail
  go_quiet (fail)
  go_wp2
  go_ret2
  exact ⟨rfl, nq, rfl⟩

theorem bits_Div64 (hi lo y : Nat) (hlo : lo < 18446744073709551616) (hy : hi < y) (hyM : y ≤ 1125899906842624) (w : World) :
    Calls Tryd.prog 94 #[.int .u64 hi, .int .u64 lo, .int .u64 y] w (DivPost (hi * 18446744073709551616 + lo) y w) := by
  by_cases h0 : hi = 0
  · subst h0
    have := div64_small lo y hlo hy hyM w
    simpa using this
  · obtain ⟨b1, b2, b3, b4⟩ := bitLen_bounds 51 y (by omega) (by decide) (by omega)
    obtain ⟨s, hs⟩ : ∃ s, Lib.bitLen y + s = 64 := ⟨64 - Lib.bitLen y, by omega⟩
    have h := div64_great hi lo y s _ _ _ _ _ _ _ _ _ (div_prep hi lo y s hs hlo hy hyM) hs (by omega) hlo hy hyM (by omega) (by omega) w
    exact h.mono fun e w' ⟨he, hw⟩ => ⟨he, 0, hw⟩
end Go.Proofs.YtajnfkmkombajacDoor
