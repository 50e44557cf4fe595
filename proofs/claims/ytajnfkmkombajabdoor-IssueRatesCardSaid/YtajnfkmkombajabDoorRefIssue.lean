/- Contracts of the document's ratio, rate, bonus, reward. -/
import Derived.Test.YtajnfkmkombajabDoorRefBend
import Derived.Test.YtajnfkmkombajabDoorRefProd
import Derived.Test.YtajnfkmkombajabDoorIssue
import Derived.Test.YtajnfkmkombajabDoorPlRefIssue
set_option linter.unusedVariables false
set_option linter.unusedSimpArgs false
namespace Go.Proofs.YtajnfkmkombajabDoor
open Go.RowKit

theorem ref_RatioOf (s p : Int) (w : World) :
    Calls Tryd.prog 70 #[.int .i64 s, .int .i64 p] w fun e w' => e = .returned (.tuple #[.int .i64 (ratioN s p), .int .i64 (ratioC s p)]) ∧ w = w' := by
  by_cases h : ratioOk s p
  · have HC : Hid (ratioC s p = 0) := (by unfold ratioC; rw [if_pos h] : ratioC s p = 0)
    have HN0 : ratioN s p = s * 1000000 / p := (by unfold ratioN; rw [if_pos h] : ratioN s p = s * 1000000 / p)
    obtain ⟨-, -, -, ho⟩ := ratio_over h
    obtain ⟨h0, h1, h3, h4⟩ := h
    have a1 : amtB s = true := amtB_iff.2 (by omega)
    have a2 : amtB p = true := amtB_iff.2 (by omega)
    obtain ⟨a, rfl⟩ := Int.eq_ofNat_of_zero_le h0
    obtain ⟨c, rfl⟩ := Int.eq_ofNat_of_zero_le (show 0 ≤ p by omega)
    have e1 : ((a : Int) * 1000000 / c) = ((a * 1000000 / c : Nat) : Int) := by simp
    have HP := Lib.hid (ref_Product a 1000000 c (by omega) (by omega) (by omega) (by omega))
    rw [e1] at ho HN0
    have hq : a * 1000000 / c ≤ 1125899906842624 := by clear HP HN0 e1; generalize a * 1000000 / c = z at ho ⊢; omega
    have HV := Lib.hid (rprod_yes hq)
    have HN := Lib.hid HN0
    have hpe : ((c : Int) == 0) = false := by simp; omega
    have d1 : decide ((c : Int) < (a : Int)) = false := decide_eq_false (by omega)
    have d2 : decide (c < a) = false := decide_eq_false (by omega)
    clear HN0 e1 ho hq
    generalize a * 1000000 / c = q at *
    generalize a * 1000000 % c = r at *
    go_enter Tryd.func70, Tryd.ntmps70
    go_wp2_with (first | (go_at_call 118; refine (refb_IsAmount _ _).mono ?_; rintro e w' ⟨rfl, rfl⟩) | (go_at_call 124; refine (HP.out _).mono ?_; rintro e w' ⟨rfl, rfl⟩; rw [HV.out]))
    go_ret2
    exact ⟨by rw [HC.out, HN.out]; rfl, rfl⟩
  · have HC : Hid (ratioC s p = 2) := (by unfold ratioC; rw [if_neg h] : ratioC s p = 2)
    have HN : Hid (ratioN s p = 0) := (by unfold ratioN; rw [if_neg h] : ratioN s p = 0)
    cases a1 : amtB s with
    | false =>
      clear h
      go_enter Tryd.func70, Tryd.ntmps70
      go_wp2_with (go_at_call 118; refine (refb_IsAmount _ _).mono ?_; rintro e w' ⟨rfl, rfl⟩)
      go_ret2
      exact ⟨by rw [HC.out, HN.out]; rfl, rfl⟩
    | true =>
    cases a2 : amtB p with
    | false =>
      clear h
      go_enter Tryd.func70, Tryd.ntmps70
      go_wp2_with (go_at_call 118; refine (refb_IsAmount _ _).mono ?_; rintro e w' ⟨rfl, rfl⟩)
      go_ret2
      exact ⟨by rw [HC.out, HN.out]; rfl, rfl⟩
    | true =>
    obtain ⟨s0, s1⟩ := amtB_iff.1 a1
    obtain ⟨p0, p1⟩ := amtB_iff.1 a2
    by_cases hp : p = 0
    · clear h
      subst hp
      go_enter Tryd.func70, Tryd.ntmps70
      go_wp2_with (go_at_call 118; refine (refb_IsAmount _ _).mono ?_; rintro e w' ⟨rfl, rfl⟩)
      go_ret2
      exact ⟨by rw [HC.out, HN.out]; rfl, rfl⟩
    · have c3 : p < s := Int.not_le.1 fun hb => h ⟨by omega, by omega, by omega, by omega⟩
      have hpe : (p == 0) = false := by simp [hp]
      clear h hp
      go_enter Tryd.func70, Tryd.ntmps70
      go_wp2_with (go_at_call 118; refine (refb_IsAmount _ _).mono ?_; rintro e w' ⟨rfl, rfl⟩)
      go_ret2
      exact ⟨by rw [HC.out, HN.out]; rfl, rfl⟩

theorem ref_RateError (r b : Int) (w : World) :
    Calls Tryd.prog 73 #[.int .i64 r, .int .i64 b] w fun e w' => e = .returned (.int .i64 (rateC r b)) ∧ w = w' := by
  by_cases h : rateOk r b
  · have HC : Hid (rateC r b = 0) := (by unfold rateC; rw [if_pos h] : rateC r b = 0)
    obtain ⟨h0, h1, h3, h4⟩ := h
    go_enter Tryd.func73, Tryd.ntmps73
    go_wp2
    go_ret
    exact ⟨by rw [HC.out]; rfl, rfl⟩
  · have HC : Hid (rateC r b = 2) := (by unfold rateC; rw [if_neg h] : rateC r b = 2)
    have hw : r < 0 ∨ (0 ≤ r ∧ 1000000 < r) ∨ (0 ≤ r ∧ r ≤ 1000000 ∧ b < 0) ∨ (0 ≤ r ∧ r ≤ 1000000 ∧ 0 ≤ b ∧ 5000 < b) := by
      have : ¬ (0 ≤ r ∧ r ≤ 1000000 ∧ 0 ≤ b ∧ b ≤ 5000) := h
      omega
    clear h
    rcases hw with h0 | ⟨h0, h1⟩ | ⟨h0, h1, h2⟩ | ⟨h0, h1, h2, h3⟩
    all_goals
      go_enter Tryd.func73, Tryd.ntmps73
      go_wp2
      go_ret
      exact ⟨by rw [HC.out]; rfl, rfl⟩

set_option maxRecDepth 8000 in
theorem ref_RateOf (r b : Int) (w : World) (h : rateOk r b) :
    Calls Tryd.prog 74 #[.int .i64 r, .int .i64 b] w fun e w' => e = .returned (.int .i64 (rateN r b)) ∧ Below w.heap.size w w' := by
  have HN : Hid (rateN r b = bendV rateL r + b) := (by unfold rateN; rw [if_pos h] : rateN r b = bendV rateL r + b)
  obtain ⟨h0, h1, h4, h5⟩ := h
  obtain ⟨n0, n1⟩ := rateL_bounds h0 h1
  have hc : ∀ t o v, #[Value.int .i64 0, Value.int .i64 40000, Value.int .i64 250000, Value.int .i64 20000, Value.int .i64 500000, Value.int .i64 10000, Value.int .i64 1000000, Value.int .i64 5000][o]? = some v → (w.alloc (.cells #[Value.int .i64 0, Value.int .i64 40000, Value.int .i64 250000, Value.int .i64 20000, Value.int .i64 500000, Value.int .i64 10000, Value.int .i64 1000000, Value.int .i64 5000] t)).cell? ⟨w.heap.size, o, none⟩ = some v := fun t o v h => by
    rw [World.cell?_alloc_new]; exact h
  have HR : ∀ t, RdP (w.alloc (.cells #[Value.int .i64 0, Value.int .i64 40000, Value.int .i64 250000, Value.int .i64 20000, Value.int .i64 500000, Value.int .i64 10000, Value.int .i64 1000000, Value.int .i64 5000] t)) (some ⟨w.heap.size, 0, none⟩) 4 4 rateL := fun t =>
    ⟨rfl, Nat.le_refl _, by decide, fun h => (by cases h), fun p hp => by
      simp only [rateL, List.mem_cons, List.not_mem_nil, or_false] at hp
      rcases hp with rfl | rfl | rfl | rfl <;> decide, fun i hi => ⟨_, _, rfl, by
        have : i = 0 ∨ i = 1 ∨ i = 2 ∨ i = 3 := by omega
        rcases this with rfl | rfl | rfl | rfl <;> exact hc _ _ _ rfl, by
        have : i = 0 ∨ i = 1 ∨ i = 2 ∨ i = 3 := by omega
        rcases this with rfl | rfl | rfl | rfl <;> exact hc _ _ _ rfl⟩⟩
  have HR' := Lib.hid HR; clear HR hc
  have HB : Hid (∀ t, Calls Tryd.prog 62 #[.slice (some ⟨w.heap.size, 0, none⟩) 4 4, .int .i64 r] (w.alloc (.cells #[Value.int .i64 0, Value.int .i64 40000, Value.int .i64 250000, Value.int .i64 20000, Value.int .i64 500000, Value.int .i64 10000, Value.int .i64 1000000, Value.int .i64 5000] t)) fun e w' => e = .returned (.int .i64 (bendV rateL r)) ∧ Below w.heap.size w w') :=
    fun t => (ref_BendOf _ _ _ _ rateL r _ (HR'.out t) rateL_right h0 h1).mono fun e w' ⟨he, hb⟩ => ⟨he, btrans ((Below.refl _ w).alloc (Nat.le_refl _) _) hb⟩
  clear HR'
  generalize bendV rateL r = n at *
  go_enter Tryd.func74, Tryd.ntmps74
  go_wp2_with fail
  refine (HB.out _).mono ?_
  rintro e w' ⟨rfl, hb⟩
  go_wp2
  go_ret
  exact ⟨by rw [HN.out]; rfl, hb⟩

theorem ref_BonusOf (b r : Int) (w : World) (h : rateOk r b) :
    Calls Tryd.prog 75 #[.int .i64 b, .int .i64 r] w fun e w' => e = .returned (.int .i64 (bonusN b r)) ∧ w = w' := by
  have HN := Lib.hid (bonus_doc h)
  obtain ⟨h0, h1, h2, h3⟩ := h
  have hways : (r < 480000 ∧ b + 100 ≤ 5000) ∨ (r < 480000 ∧ 5000 < b + 100) ∨ (480000 ≤ r ∧ r ≤ 520000) ∨ (520000 < r ∧ b - 100 < 0) ∨ (520000 < r ∧ 0 ≤ b - 100) := by omega
  rcases hways with ⟨c1, c2⟩ | ⟨c1, c2⟩ | ⟨c1, c2⟩ | ⟨c1, c2⟩ | ⟨c1, c2⟩
  all_goals
    have e : (if (if 520000 < r then (if r < 480000 then b + 100 else b) - 100 else (if r < 480000 then b + 100 else b)) > 5000 then 5000 else if (if 520000 < r then (if r < 480000 then b + 100 else b) - 100 else (if r < 480000 then b + 100 else b)) < 0 then 0 else (if 520000 < r then (if r < 480000 then b + 100 else b) - 100 else (if r < 480000 then b + 100 else b))) = (if r < 480000 then (if b + 100 ≤ 5000 then b + 100 else 5000) else if r ≤ 520000 then b else if b - 100 < 0 then 0 else b - 100) := by
      repeat' split
      all_goals omega
    have HN2 := Lib.hid (HN.out.trans e)
    clear HN e
    go_enter Tryd.func75, Tryd.ntmps75
    go_wp2
    go_ret
    refine ⟨?_, rfl⟩
    rw [HN2.out]
    repeat' split
    all_goals (first | rfl | omega)

theorem ref_RewardOf (s r : Int) (w : World) :
    Calls Tryd.prog 77 #[.int .i64 s, .int .i64 r] w fun e w' => e = .returned (.tuple #[.int .i64 (rewardN s r), .int .i64 (rewardC s r)]) ∧ w = w' := by
  by_cases h : rewardOk s r
  · have HC : Hid (rewardC s r = 0) := (by unfold rewardC; rw [if_pos h] : rewardC s r = 0)
    have HN0 : rewardN s r = s * r / 1000000 / 4 := (by unfold rewardN; rw [if_pos h] : rewardN s r = s * r / 1000000 / 4)
    obtain ⟨-, -, -, ho⟩ := reward_over h
    obtain ⟨⟨h0, h1⟩, h3, h4⟩ := h
    have a1 : amtB s = true := amtB_iff.2 (by omega)
    obtain ⟨a, rfl⟩ := Int.eq_ofNat_of_zero_le h0
    obtain ⟨b, rfl⟩ := Int.eq_ofNat_of_zero_le h3
    have e1 : ((a : Int) * b / 1000000) = ((a * b / 1000000 : Nat) : Int) := by simp
    have HP := Lib.hid (ref_Product a b 1000000 (by omega) (by omega) (by omega) (by omega))
    rw [e1] at ho HN0
    have hq : a * b / 1000000 ≤ 1125899906842624 := by clear HP HN0 e1; generalize a * b / 1000000 = z at ho ⊢; omega
    have HV := Lib.hid (rprod_yes hq)
    have HN := Lib.hid HN0
    clear HN0 e1 ho
    generalize a * b / 1000000 = q at *
    generalize a * b % 1000000 = m at *
    have hqd : (q : Int).tdiv 4 = (q : Int) / 4 := rfl
    go_enter Tryd.func77, Tryd.ntmps77
    go_wp2_with (first | (go_at_call 118; refine (refb_IsAmount _ _).mono ?_; rintro e w' ⟨rfl, rfl⟩) | (go_at_call 124; refine (HP.out _).mono ?_; rintro e w' ⟨rfl, rfl⟩; rw [HV.out]))
    go_ret2
    exact ⟨by rw [HC.out, HN.out]; rfl, rfl⟩
  · have HC : Hid (rewardC s r = 2) := (by unfold rewardC; rw [if_neg h] : rewardC s r = 2)
    have HN : Hid (rewardN s r = 0) := (by unfold rewardN; rw [if_neg h] : rewardN s r = 0)
    cases a1 : amtB s with
    | false =>
      clear h
      go_enter Tryd.func77, Tryd.ntmps77
      go_wp2_with (go_at_call 118; refine (refb_IsAmount _ _).mono ?_; rintro e w' ⟨rfl, rfl⟩)
      go_ret2
      exact ⟨by rw [HC.out, HN.out]; rfl, rfl⟩
    | true =>
    obtain ⟨s0, s1⟩ := amtB_iff.1 a1
    have hw : r < 0 ∨ (0 ≤ r ∧ 1000000 < r) := by
      have : ¬ ((0 ≤ s ∧ s ≤ 1125899906842624) ∧ 0 ≤ r ∧ r ≤ 1000000) := h
      omega
    clear h
    rcases hw with c0 | ⟨c0, c1⟩
    all_goals
      go_enter Tryd.func77, Tryd.ntmps77
      go_wp2_with (go_at_call 118; refine (refb_IsAmount _ _).mono ?_; rintro e w' ⟨rfl, rfl⟩)
      go_ret2
      exact ⟨by rw [HC.out, HN.out]; rfl, rfl⟩
end Go.Proofs.YtajnfkmkombajabDoor
