/- The walk of PartBack. -/
import Derived.Test.YtajnfkmkombajaaDoorPart
namespace Go.Proofs.YtajnfkmkombajaaDoor
open Go.RowKit

theorem law_parted (A : Nat → Addr) (S : List Nat) (w : World) (hE : Errs A S w) (h2 : 2 ∈ S) :
    Calls Tryd.prog 30 #[] w fun e w' => e = .returned (.bool true) ∧ Dr w w' := by
  have HE := Lib.hid hE; clear hE
  have e1 : ev A (overC 10 2 3) = .nilIface := by rw [show overC 10 2 3 = 0 from by decide]; rfl
  have e2 : ev A (upC 10 2 3) = .nilIface := by rw [show upC 10 2 3 = 0 from by decide]; rfl
  have e3 : overN 10 2 3 = 6 := by decide
  have e4 : upN 10 2 3 = 7 := by decide
  go_enter Tryd.func30, Tryd.ntmps30
  go_wp2_with (first
    | (go_at_call 31; refine (part_Down A S _ _ _ _ HE.out h2).mono ?_; rintro e w' ⟨rfl, k, hk⟩; subst hk)
    | (go_at_call 32; refine (part_Up A S _ _ _ _ (HE.out.drewN _) h2).mono ?_; rintro e w' ⟨rfl, k', hk⟩; subst hk))
  go_ret
  exact ⟨rfl, k + k', by simp [World.drewN, Nat.add_assoc]⟩

/-- what the law asks, in plain numbers -/
theorem back_plain {a b c : Int} (hO : overOk a b c) (hb : 1 ≤ b) (ha : a ≤ 1073741824) : overOk (a * b / c) c b ∧ a * b / c * c / b ≤ a := by
  obtain ⟨⟨a0, a1⟩, ⟨b0, b1⟩, ⟨c0, c1⟩, hq⟩ := hO
  have hq0 : 0 ≤ a * b / c := Int.ediv_nonneg (Int.mul_nonneg a0 b0) (by omega)
  have hle : a * b / c * c ≤ a * b := Int.ediv_mul_le _ (by omega)
  have h2 : a * b / c * c / b ≤ a := by
    have := Int.ediv_le_ediv (show 0 < b by omega) hle
    rwa [Int.mul_ediv_cancel _ (show b ≠ 0 by omega)] at this
  exact ⟨⟨⟨hq0, hq⟩, ⟨by omega, c1⟩, ⟨hb, b1⟩, by omega⟩, h2⟩

set_option maxHeartbeats 1000000 in
theorem back_walk (A : Nat → Addr) (S : List Nat) (a b c : Int) (w : World) (hE : Errs A S w) (h2 : 2 ∈ S) (a0 : 0 ≤ a) (a1 : a ≤ 1073741824) (b0 : 0 ≤ b) (b1 : b ≤ 1073741824) (c0 : 1 ≤ c) (c1 : c ≤ 1125899906842624) :
    Calls Tryd.prog 5 #[.int .i64 a, .int .i64 b, .int .i64 c] w fun e w' => e = .returned (.bool true) ∧ Dr w w' := by
  have HE := Lib.hid hE; clear hE
  by_cases hO : overOk a b c
  · have hq0 : 0 ≤ a * b / c := Int.ediv_nonneg (Int.mul_nonneg a0 b0) (by omega)
    have hq1 : a * b / c ≤ 1125899906842624 := hO.2.2.2
    have hr0 : 0 ≤ a * b % c := Int.emod_nonneg _ (by omega)
    have hr1 : a * b % c < c := Int.emod_lt_of_pos _ (by omega)
    have hp0 : 0 ≤ a * b := Int.mul_nonneg a0 b0
    have hp1 : a * b ≤ 1073741824 * 1073741824 := Int.mul_le_mul a1 b1 b0 (by omega)
    have hdm : a * b / c * c + a * b % c = a * b := Int.ediv_mul_add_emod _ _
    obtain ⟨y1, y2, _⟩ := over_yes hO
    have e1 : ev A (overC a b c) = .nilIface := by rw [y1]; rfl
    have Hback := Lib.hid (fun hb => back_plain hO hb a1)
    have Hup : Hid (a * b % c = 0 → ev A (upC a b c) = .nilIface ∧ upN a b c = a * b / c) := fun h => by
      have hU : upOk a b c := ⟨hO, by rw [if_pos h]; omega⟩
      obtain ⟨u1, u2⟩ := up_yes hU
      rw [if_pos h, Int.add_zero] at u2
      exact ⟨by rw [u1]; rfl, u2⟩
    have Hup2 : Hid (0 < a * b % c → a * b / c + 1 ≤ 1125899906842624 → ev A (upC a b c) = .nilIface ∧ upN a b c = a * b / c + 1) := fun h h' => by
      have hn : ¬ a * b % c = 0 := by omega
      have hU : upOk a b c := ⟨hO, by rw [if_neg hn]; exact h'⟩
      obtain ⟨u1, u2⟩ := up_yes hU
      rw [if_neg hn] at u2
      exact ⟨by rw [u1]; rfl, u2⟩
    have Hup3 : Hid (0 < a * b % c → ¬ a * b / c + 1 ≤ 1125899906842624 → ev A (upC a b c) = .iface 111 (.pointer (some (A 2)))) := fun h h' => by
      have hn : ¬ a * b % c = 0 := by omega
      have hU : ¬ upOk a b c := fun hU => h' (by have := hU.2; rw [if_neg hn] at this; exact this)
      rw [(up_no hU).1]; rfl
    have Hz : Hid (b = 0 → a * b / c = 0) := fun h => by rw [h, Int.mul_zero, Int.zero_ediv]
    clear hO y1
    have hmul : IntKind.i64.wrap (a * b) = a * b := IntWalk.i64_in _ ⟨by omega, by omega⟩
    have hmul2 : IntKind.i64.wrap (a * b / c * c) = a * b / c * c := IntWalk.i64_in _ ⟨by omega, by omega⟩
    generalize a * b / c = q at *
    generalize a * b % c = r at *
    generalize hP : a * b = P at *
    generalize hT : q * c = T at *
    have hsub : P - T = r := by omega
    have hTP : T ≤ P := by omega
    clear hdm
    have HT := Lib.hid hT
    have l1 : decide (r < 0) = false := by simp; omega
    have l2 : decide (c ≤ r) = false := by simp; omega
    have HS : Hid (∃ U, ev A (upC a b c) = U ∧ ((U = .nilIface ∧ ((r = 0 ∧ upN a b c = q) ∨ (0 < r ∧ upN a b c = q + 1))) ∨ (U = .iface 111 (.pointer (some (A 2))) ∧ q = 1125899906842624))) := by
      by_cases hz : r = 0
      · obtain ⟨u1, u2⟩ := Hup.out hz
        exact ⟨_, u1, .inl ⟨rfl, .inl ⟨hz, u2⟩⟩⟩
      · by_cases hl : q + 1 ≤ 1125899906842624
        · obtain ⟨u1, u2⟩ := Hup2.out (by omega) hl
          exact ⟨_, u1, .inl ⟨rfl, .inr ⟨by omega, u2⟩⟩⟩
        · exact ⟨_, Hup3.out (by omega) hl, .inr ⟨rfl, by omega⟩⟩
    obtain ⟨U, hU, hcase⟩ := HS.out
    clear HS Hup Hup2 Hup3
    rcases hcase with ⟨rfl, hr⟩ | ⟨rfl, rfl⟩
    · by_cases hb : b = 0
      · have hq0' : (q == 0) = true := by simp [Hz.out hb]
        have hbe : (b == 0) = true := by simp [hb]
        clear hb
        have hre : r = 0 → (r == 0) = true ∧ decide (0 < r) = false := fun h => by simp [h]
        have hre' : 0 < r → (r == 0) = false ∧ decide (0 < r) = true := fun h => by simp; omega
        have hqq : (q != q) = false := by simp
        have hqq1 : (q + 1 != q + 1) = false := by simp
        rcases hr with ⟨hrz, hn⟩ | ⟨hrp, hn⟩
        · obtain ⟨m1, m2⟩ := hre hrz
          clear hre hre' hrz
          go_enter Tryd.func5, Tryd.ntmps5
          go_wp2_with (first
            | (go_at_call 30; refine (law_parted A S _ HE.out h2).mono ?_; rintro e w' ⟨rfl, k0, hk⟩; subst hk)
            | (go_at_call_of 31 (Value.int .i64 a); refine (part_Down A S _ _ _ _ (HE.out.drewN _) h2).mono ?_; rintro e w' ⟨rfl, k, hk⟩; subst hk)
            | (go_at_call_of 31 (Value.int .i64 q); refine (part_Down A S _ _ _ _ (HE.out.drewN _) h2).mono ?_; rintro e w' ⟨rfl, k3, hk⟩; subst hk)
            | (go_at_call 32; refine (part_Up A S _ _ _ _ (HE.out.drewN _) h2).mono ?_; rintro e w' ⟨rfl, k2, hk⟩; subst hk))
          go_ret
          exact ⟨by simp [*], _, rfl⟩
        · obtain ⟨m1, m2⟩ := hre' hrp
          clear hre hre'
          go_enter Tryd.func5, Tryd.ntmps5
          go_wp2_with (first
            | (go_at_call 30; refine (law_parted A S _ HE.out h2).mono ?_; rintro e w' ⟨rfl, k0, hk⟩; subst hk)
            | (go_at_call_of 31 (Value.int .i64 a); refine (part_Down A S _ _ _ _ (HE.out.drewN _) h2).mono ?_; rintro e w' ⟨rfl, k, hk⟩; subst hk)
            | (go_at_call_of 31 (Value.int .i64 q); refine (part_Down A S _ _ _ _ (HE.out.drewN _) h2).mono ?_; rintro e w' ⟨rfl, k3, hk⟩; subst hk)
            | (go_at_call 32; refine (part_Up A S _ _ _ _ (HE.out.drewN _) h2).mono ?_; rintro e w' ⟨rfl, k2, hk⟩; subst hk))
          go_ret
          exact ⟨by simp [*], _, rfl⟩
      · have hb1 : 1 ≤ b := by omega
        obtain ⟨z1, z2⟩ := Hback.out hb1
        obtain ⟨o1, o2, _⟩ := over_yes z1
        have e5 : ev A (overC q c b) = .nilIface := by rw [o1]; rfl
        rw [HT.out] at o2
        have hbe : (b == 0) = false := by simp; omega
        clear z1 o1 hb
        have hre : r = 0 → (r == 0) = true ∧ decide (0 < r) = false := fun h => by simp [h]
        have hre' : 0 < r → (r == 0) = false ∧ decide (0 < r) = true := fun h => by simp; omega
        have hqq : (q != q) = false := by simp
        have hqq1 : (q + 1 != q + 1) = false := by simp
        have hz2 : decide (T / b ≤ a) = true := by simp only [decide_eq_true_eq]; exact z2
        clear z2
        rcases hr with ⟨hrz, hn⟩ | ⟨hrp, hn⟩
        · obtain ⟨m1, m2⟩ := hre hrz
          clear hre hre' hrz
          go_enter Tryd.func5, Tryd.ntmps5
          go_wp2_with (first
            | (go_at_call 30; refine (law_parted A S _ HE.out h2).mono ?_; rintro e w' ⟨rfl, k0, hk⟩; subst hk)
            | (go_at_call_of 31 (Value.int .i64 a); refine (part_Down A S _ _ _ _ (HE.out.drewN _) h2).mono ?_; rintro e w' ⟨rfl, k, hk⟩; subst hk)
            | (go_at_call_of 31 (Value.int .i64 q); refine (part_Down A S _ _ _ _ (HE.out.drewN _) h2).mono ?_; rintro e w' ⟨rfl, k3, hk⟩; subst hk)
            | (go_at_call 32; refine (part_Up A S _ _ _ _ (HE.out.drewN _) h2).mono ?_; rintro e w' ⟨rfl, k2, hk⟩; subst hk))
          go_ret
          exact ⟨by simp [*], _, rfl⟩
        · obtain ⟨m1, m2⟩ := hre' hrp
          clear hre hre'
          go_enter Tryd.func5, Tryd.ntmps5
          go_wp2_with (first
            | (go_at_call 30; refine (law_parted A S _ HE.out h2).mono ?_; rintro e w' ⟨rfl, k0, hk⟩; subst hk)
            | (go_at_call_of 31 (Value.int .i64 a); refine (part_Down A S _ _ _ _ (HE.out.drewN _) h2).mono ?_; rintro e w' ⟨rfl, k, hk⟩; subst hk)
            | (go_at_call_of 31 (Value.int .i64 q); refine (part_Down A S _ _ _ _ (HE.out.drewN _) h2).mono ?_; rintro e w' ⟨rfl, k3, hk⟩; subst hk)
            | (go_at_call 32; refine (part_Up A S _ _ _ _ (HE.out.drewN _) h2).mono ?_; rintro e w' ⟨rfl, k2, hk⟩; subst hk))
          go_ret
          exact ⟨by simp [*], _, rfl⟩
    · have hqM : ((1125899906842624 : Int) == 1125899906842624) = true := by decide
      go_enter Tryd.func5, Tryd.ntmps5
      go_wp2_with (first
        | (go_at_call 30; refine (law_parted A S _ HE.out h2).mono ?_; rintro e w' ⟨rfl, k0, hk⟩; subst hk)
        | (go_at_call_of 31 (Value.int .i64 a); refine (part_Down A S _ _ _ _ (HE.out.drewN _) h2).mono ?_; rintro e w' ⟨rfl, k, hk⟩; subst hk)
        | (go_at_call_of 31 (Value.int .i64 1125899906842624); refine (part_Down A S _ _ _ _ (HE.out.drewN _) h2).mono ?_; rintro e w' ⟨rfl, k3, hk⟩; subst hk)
        | (go_at_call 32; refine (part_Up A S _ _ _ _ (HE.out.drewN _) h2).mono ?_; rintro e w' ⟨rfl, k2, hk⟩; subst hk))
      go_ret
      exact ⟨by simp [*], _, rfl⟩
  · obtain ⟨y1, y2, _⟩ := over_no hO
    have e1 : ev A (overC a b c) = .iface 111 (.pointer (some (A 2))) := by rw [y1]; rfl
    clear y1 hO
    go_enter Tryd.func5, Tryd.ntmps5
    go_wp2_with (first
      | (go_at_call 30; refine (law_parted A S _ HE.out h2).mono ?_; rintro e w' ⟨rfl, k0, hk⟩; subst hk)
      | (go_at_call 31; refine (part_Down A S _ _ _ _ (HE.out.drewN _) h2).mono ?_; rintro e w' ⟨rfl, k, hk⟩; subst hk))
    go_ret
    exact ⟨rfl, k0 + k, by simp [World.drewN, Nat.add_assoc]⟩
theorem back_all (A : Nat → Addr) (S : List Nat) (a b c : Int) (w : World) (hE : Errs A S w) (h2 : 2 ∈ S) :
    Calls Tryd.prog 5 #[.int .i64 a, .int .i64 b, .int .i64 c] w fun e w' => e = .returned (.bool true) ∧ Dr w w' := by
  by_cases h : 0 ≤ a ∧ a ≤ 1073741824 ∧ 0 ≤ b ∧ b ≤ 1073741824 ∧ 1 ≤ c ∧ c ≤ 1125899906842624
  · obtain ⟨x1, x2, x3, x4, x5, x6⟩ := h
    exact back_walk A S a b c w hE h2 x1 x2 x3 x4 x5 x6
  · have HE := Lib.hid hE; clear hE
    go_enter Tryd.func5, Tryd.ntmps5
    go_wp2_with (go_at_call 30; refine (law_parted A S _ HE.out h2).mono ?_; rintro e w' ⟨rfl, k0, hk⟩; subst hk)
    all_goals (go_ret; exact ⟨rfl, k0, rfl⟩)
end Go.Proofs.YtajnfkmkombajaaDoor
