/- Contracts of package part: Amount, over, Down, Up. -/
import Derived.Test.YtajnfkmkombajacDoorDiv
import Derived.Test.YtajnfkmkombajacDoorErr
import Derived.Test.YtajnfkmkombajacDoorPlPart
import Derived.Test.YtajnfkmkombajacDoorAmt
set_option linter.unusedVariables false
set_option linter.unusedSimpArgs false
namespace Go.Proofs.YtajnfkmkombajacDoor
open Go.RowKit

def OverPost (A : Nat → Addr) (a b c : Int) (w : World) (e : Ending) (w' : World) : Prop := e = .returned (.tuple #[.int .i64 (overN a b c), .int .i64 (overR a b c), ev A (overC a b c)]) ∧ Dr w w'

/-- all three may be reckoned with -/
theorem over_in (A : Nat → Addr) (S : List Nat) (a b c : Nat) (ha : a ≤ 1125899906842624) (hb : b ≤ 1125899906842624) (hc0 : 0 < c) (hc : c ≤ 1125899906842624) (w : World) (hE : Errs A S w) (h2 : 2 ∈ S) :
    Calls Tryd.prog 68 #[.int .i64 a, .int .i64 b, .int .i64 c] w (OverPost A a b c w) := by
  have g2 : w.cell? ⟨0, 0, none⟩ = some (.iface 181 (.pointer (some (A 2)))) := hE.cell 2 h2
  have ha1 : amtB (a : Int) = true := amtB_iff.2 (by omega)
  have hb1 : amtB (b : Int) = true := amtB_iff.2 (by omega)
  have hc1 : amtB (c : Int) = true := amtB_iff.2 (by omega)
  have hc2 : ((c : Int) == 0) = false := by simp; omega
  have ia : (0 : Int) ≤ (a : Int) ∧ (a : Int) ≤ 1125899906842624 := by omega
  have ib : (0 : Int) ≤ (b : Int) ∧ (b : Int) ≤ 1125899906842624 := by omega
  have ic : (0 : Int) ≤ (c : Int) ∧ (c : Int) ≤ 1125899906842624 := by omega
  obtain ⟨hi, hhi⟩ : ∃ hi, hi = a * b / 18446744073709551616 := ⟨_, rfl⟩
  obtain ⟨lo, hlo⟩ : ∃ lo, lo = a * b % 18446744073709551616 := ⟨_, rfl⟩
  have hM : ∀ wx : World, Calls Tryd.prog 93 #[.int .u64 a, .int .u64 b] wx fun e w' => e = .returned (.tuple #[.int .u64 (hi : Int), .int .u64 (lo : Int)]) ∧ w' = wx := by
    intro wx; rw [hhi, hlo]; exact Tryd.bits_Mul64 a b (by omega) (by omega) wx
  have hall : hi * 18446744073709551616 + lo = a * b := by rw [hhi, hlo]; omega
  have hlol : lo < 18446744073709551616 := by rw [hlo]; exact Nat.mod_lt _ (by decide)
  have HM := Lib.hid hM
  clear hM hhi hlo ha hb
  have hmulc : (a : Int) * (b : Int) = ((a * b : Nat) : Int) := (Int.natCast_mul a b).symm
  have hq0 : (a : Int) * (b : Int) / (c : Int) = ((a * b / c : Nat) : Int) := by rw [hmulc, ← Int.natCast_ediv]
  have hr0 : (a : Int) * (b : Int) % (c : Int) = ((a * b % c : Nat) : Int) := by rw [hmulc, ← Int.natCast_emod]
  by_cases hlt : hi < c
  · have hD := bits_Div64 hi lo c hlol hlt hc w
    rw [hall] at hD
    have hdl : decide (c ≤ hi) = false := by simp; omega
    obtain ⟨q, hq⟩ : ∃ q, q = a * b / c := ⟨_, rfl⟩
    obtain ⟨r, hr⟩ : ∃ r, r = a * b % c := ⟨_, rfl⟩
    unfold DivPost at hD
    rw [← hq, ← hr] at hD
    rw [← hq] at hq0
    rw [← hr] at hr0
    have HD := Lib.hid hD; clear hD
    have hrl : (r : Int) < (c : Int) := by have := Nat.mod_lt (a * b) hc0; omega
    clear hq hr hall hlol hmulc
    by_cases hqM : (q : Int) ≤ 1125899906842624
    · have hO : overOk a b c := ⟨ia, ib, by omega, by rw [hq0]; exact hqM⟩
      obtain ⟨y1, y2, y3⟩ := over_yes hO
      rw [hq0] at y2
      rw [hr0] at y3
      have Y1 := Lib.hid y1; have Y2 := Lib.hid y2; have Y3 := Lib.hid y3
      clear y1 y2 y3 hO hq0 hr0
      go_enter Tryd.func68, Tryd.ntmps68
      go_wp2_with (first
        | (go_at_call 49; refine (part_Amount _ _).mono ?_; rintro e w' ⟨rfl, rfl⟩)
        | (go_at_call 93; refine (HM.out _).mono ?_; rintro e w' ⟨rfl, hw1⟩; have hw2 := hw1.symm; subst hw2; clear hw1)
        | (go_at_call 94; refine HD.out.mono ?_; rintro e w' ⟨rfl, k, hw1⟩; subst hw1))
      go_ret3
      refine ⟨?_, k, rfl⟩
      rw [Y1.out, Y2.out, Y3.out]
      rfl
    · have hO : ¬ overOk a b c := fun h => hqM (by rw [← hq0]; exact h.2.2.2)
      obtain ⟨y1, y2, y3⟩ := over_no hO
      have Y1 := Lib.hid y1; have Y2 := Lib.hid y2; have Y3 := Lib.hid y3
      clear y1 y2 y3 hO hq0 hr0
      go_enter Tryd.func68, Tryd.ntmps68
      go_wp2_with (first
        | (go_at_call 49; refine (part_Amount _ _).mono ?_; rintro e w' ⟨rfl, rfl⟩)
        | (go_at_call 93; refine (HM.out _).mono ?_; rintro e w' ⟨rfl, hw1⟩; have hw2 := hw1.symm; subst hw2; clear hw1)
        | (go_at_call 94; refine HD.out.mono ?_; rintro e w' ⟨rfl, k, hw1⟩; subst hw1))
      go_quiet (fail)
      go_wp2
      go_ret3
      refine ⟨?_, k + nq, by simp [World.drewN, Nat.add_assoc]⟩
      rw [Y1.out, Y2.out, Y3.out]
      rfl
  · have hO : ¬ overOk a b c := by
      intro h
      have h4 := h.2.2.2
      rw [hq0] at h4
      have : 18446744073709551616 ≤ a * b / c := by
        rw [Nat.le_div_iff_mul_le hc0, ← hall]
        have : c * 18446744073709551616 ≤ hi * 18446744073709551616 := Nat.mul_le_mul_right _ (Nat.le_of_not_lt hlt)
        omega
      omega
    have hdl : decide (c ≤ hi) = true := by simp; omega
    obtain ⟨y1, y2, y3⟩ := over_no hO
    have Y1 := Lib.hid y1; have Y2 := Lib.hid y2; have Y3 := Lib.hid y3
    clear y1 y2 y3 hO hq0 hr0 hall hlol hmulc hlt
    go_enter Tryd.func68, Tryd.ntmps68
    go_wp2_with (first
        | (go_at_call 49; refine (part_Amount _ _).mono ?_; rintro e w' ⟨rfl, rfl⟩)
        | (go_at_call 93; refine (HM.out _).mono ?_; rintro e w' ⟨rfl, hw1⟩; have hw2 := hw1.symm; subst hw2; clear hw1))
    go_quiet (fail)
    go_wp2
    go_ret3
    refine ⟨?_, nq, rfl⟩
    rw [Y1.out, Y2.out, Y3.out]
    rfl

/-- one of them is none that may be reckoned with -/
theorem over_out (A : Nat → Addr) (S : List Nat) (a b c : Int) (h : ¬ (amtB a = true ∧ amtB b = true ∧ amtB c = true ∧ c ≠ 0)) (w : World) (hE : Errs A S w) (h2 : 2 ∈ S) :
    Calls Tryd.prog 68 #[.int .i64 a, .int .i64 b, .int .i64 c] w (OverPost A a b c w) := by
  have g2 : w.cell? ⟨0, 0, none⟩ = some (.iface 181 (.pointer (some (A 2)))) := hE.cell 2 h2
  have hO : ¬ overOk a b c := fun ⟨x, y, z, _⟩ => h ⟨amtB_iff.2 x, amtB_iff.2 y, amtB_iff.2 (by omega), by omega⟩
  obtain ⟨y1, y2, y3⟩ := over_no hO
  have Y1 := Lib.hid y1; have Y2 := Lib.hid y2; have Y3 := Lib.hid y3
  clear y1 y2 y3 hO
  have hcases : amtB a = false ∨ (amtB a = true ∧ amtB b = false) ∨ (amtB a = true ∧ amtB b = true ∧ amtB c = false) ∨ (amtB a = true ∧ amtB b = true ∧ amtB c = true ∧ (c == 0) = true) := by
    cases h1 : amtB a <;> cases h2 : amtB b <;> cases h3 : amtB c <;> simp_all
  clear h
  rcases hcases with k1 | ⟨k1, k2⟩ | ⟨k1, k2, k3⟩ | ⟨k1, k2, k3, k4⟩
  all_goals
    go_enter Tryd.func68, Tryd.ntmps68
    go_wp2_with (go_at_call 49; refine (part_Amount _ _).mono ?_; rintro e w' ⟨rfl, rfl⟩)
    go_quiet (fail)
    go_wp2
    go_ret3
    refine ⟨?_, nq, rfl⟩
    rw [Y1.out, Y2.out, Y3.out]
    rfl

theorem part_over (A : Nat → Addr) (S : List Nat) (a b c : Int) (w : World) (hE : Errs A S w) (h2 : 2 ∈ S) :
    Calls Tryd.prog 68 #[.int .i64 a, .int .i64 b, .int .i64 c] w (OverPost A a b c w) := by
  by_cases h : amtB a = true ∧ amtB b = true ∧ amtB c = true ∧ c ≠ 0
  · obtain ⟨ha, hb, hc, hc0⟩ := h
    rw [amtB_iff] at ha hb hc
    obtain ⟨a, rfl⟩ := Int.eq_ofNat_of_zero_le ha.1
    obtain ⟨b, rfl⟩ := Int.eq_ofNat_of_zero_le hb.1
    obtain ⟨c, rfl⟩ := Int.eq_ofNat_of_zero_le hc.1
    exact over_in A S a b c (by omega) (by omega) (by omega) (by omega) w hE h2
  · exact over_out A S a b c h w hE h2

def DownPost (A : Nat → Addr) (a b c : Int) (w : World) (e : Ending) (w' : World) : Prop := e = .returned (.tuple #[.int .i64 (overN a b c), ev A (overC a b c)]) ∧ Dr w w'

theorem part_Down (A : Nat → Addr) (S : List Nat) (a b c : Int) (w : World) (hE : Errs A S w) (h2 : 2 ∈ S) :
    Calls Tryd.prog 48 #[.int .i64 a, .int .i64 b, .int .i64 c] w (DownPost A a b c w) := by
  have H := Lib.hid (part_over A S a b c w hE h2)
  go_enter Tryd.func48, Tryd.ntmps48
  go_wp2_with (go_at_call 68; refine H.out.mono ?_; rintro e w' ⟨rfl, hd⟩)
  go_ret2
  exact ⟨rfl, hd⟩

def UpPost (A : Nat → Addr) (a b c : Int) (w : World) (e : Ending) (w' : World) : Prop := e = .returned (.tuple #[.int .i64 (upN a b c), ev A (upC a b c)]) ∧ Dr w w'

theorem part_Up (A : Nat → Addr) (S : List Nat) (a b c : Int) (w : World) (hE : Errs A S w) (h2 : 2 ∈ S) :
    Calls Tryd.prog 52 #[.int .i64 a, .int .i64 b, .int .i64 c] w (UpPost A a b c w) := by
  have H := Lib.hid (part_over A S a b c w hE h2)
  have HE := Lib.hid hE; clear hE
  by_cases hO : overOk a b c
  · obtain ⟨y1, y2, y3⟩ := over_yes hO
    have hc1 : 1 ≤ c := hO.2.2.1.1
    have hq0 : 0 ≤ a * b / c := Int.ediv_nonneg (Int.mul_nonneg hO.1.1 hO.2.1.1) (by omega)
    have hr0 : 0 ≤ a * b % c := Int.emod_nonneg _ (by omega)
    have hq1 : a * b / c ≤ 1125899906842624 := hO.2.2.2
    obtain ⟨q, hq⟩ : ∃ q, q = a * b / c := ⟨_, rfl⟩
    obtain ⟨r, hr⟩ : ∃ r, r = a * b % c := ⟨_, rfl⟩
    have he : ev A (overC a b c) = .nilIface := by rw [y1]; rfl
    rw [← hq] at y2 hq0 hq1
    rw [← hr] at y3 hr0
    have Hq := Lib.hid hq; have Hr := Lib.hid hr
    clear hq hr y1
    have HO := Lib.hid hO; clear hO
    by_cases hz : r = 0
    · subst hz
      have hU : upOk a b c := ⟨HO.out, by rw [← Hr.out, ← Hq.out]; simpa using hq1⟩
      obtain ⟨u1, u2⟩ := up_yes hU
      rw [← Hr.out, ← Hq.out, if_pos rfl, Int.add_zero] at u2
      have U1 := Lib.hid u1; have U2 := Lib.hid u2
      clear u1 u2 hU
      go_enter Tryd.func52, Tryd.ntmps52
      go_wp2_with (go_at_call 68; refine H.out.mono ?_; rintro e w' ⟨rfl, hd⟩)
      go_ret2
      exact ⟨by rw [U1.out, U2.out]; rfl, hd⟩
    · have hr1 : 0 < r := by omega
      by_cases hl : q + 1 ≤ 1125899906842624
      · have hU : upOk a b c := ⟨HO.out, by rw [← Hr.out, ← Hq.out, if_neg hz]; exact hl⟩
        obtain ⟨u1, u2⟩ := up_yes hU
        rw [← Hr.out, ← Hq.out, if_neg hz] at u2
        have U1 := Lib.hid u1; have U2 := Lib.hid u2
        clear u1 u2 hU hz
        go_enter Tryd.func52, Tryd.ntmps52
        go_wp2_with (go_at_call 68; refine H.out.mono ?_; rintro e w' ⟨rfl, hd⟩)
        go_ret2
        exact ⟨by rw [U1.out, U2.out]; rfl, hd⟩
      · have hU : ¬ upOk a b c := fun h => hl (by have := h.2; rw [← Hr.out, ← Hq.out, if_neg hz] at this; exact this)
        obtain ⟨u1, u2⟩ := up_no hU
        have U1 := Lib.hid u1; have U2 := Lib.hid u2
        clear u1 u2 hU hz
        go_enter Tryd.func52, Tryd.ntmps52
        go_wp2_with (go_at_call 68; refine H.out.mono ?_; rintro e w' ⟨rfl, k, hk⟩; subst hk; have g2 : w.cell? ⟨0, 0, none⟩ = some (.iface 181 (.pointer (some (A 2)))) := HE.out.cell 2 h2)
        go_quiet (fail)
        go_wp2
        go_ret2
        exact ⟨by rw [U1.out, U2.out]; rfl, k + nq, by simp [World.drewN, Nat.add_assoc]⟩
  · obtain ⟨y1, y2, y3⟩ := over_no hO
    have he : ev A (overC a b c) = .iface 181 (.pointer (some (A 2))) := by rw [y1]; rfl
    obtain ⟨u1, u2⟩ := up_no (a := a) (b := b) (c := c) (fun h => hO h.1)
    have U1 := Lib.hid u1; have U2 := Lib.hid u2
    clear u1 u2 hO y1
    go_enter Tryd.func52, Tryd.ntmps52
    go_wp2_with (go_at_call 68; refine H.out.mono ?_; rintro e w' ⟨rfl, hd⟩)
    go_ret2
    exact ⟨by rw [U1.out, U2.out]; rfl, hd⟩
end Go.Proofs.YtajnfkmkombajacDoor
