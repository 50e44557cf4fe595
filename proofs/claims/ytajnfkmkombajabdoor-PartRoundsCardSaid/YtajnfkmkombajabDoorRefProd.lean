/- Contracts of the document's Product, DownOf, UpOf. -/
import Derived.Test.YtajnfkmkombajabDoorRefPurse
import Derived.Test.YtajnfkmkombajabDoorPlProd
import Derived.Deep.RegionWith
set_option linter.unusedVariables false
set_option linter.unusedSimpArgs false
namespace Go.Proofs.YtajnfkmkombajabDoor
open Go.RowKit

def prodV (a b c : Nat) : Value := if a * b / c ≤ 1125899906842624 then .tuple #[.int .i64 ((a * b / c : Nat) : Int), .int .i64 ((a * b % c : Nat) : Int), .bool true] else .tuple #[.int .i64 0, .int .i64 0, .bool false]

set_option maxRecDepth 8000 in
set_option maxHeartbeats 1000000 in
theorem ref_Product (a b c : Nat) (ha : a ≤ 1125899906842624) (hb : b ≤ 1125899906842624) (hc0 : 0 < c) (hc : c ≤ 1125899906842624) (w : World) :
    Calls Tryd.prog 124 #[.int .i64 a, .int .i64 b, .int .i64 c] w fun e w' => e = .returned (prodV a b c) ∧ w = w' := by
  have HA := Lib.hid ha
  have HB := Lib.hid hb
  have HC := Lib.hid hc
  have HC0 := Lib.hid hc0
  clear ha hb hc hc0
  go_enter Tryd.func124, Tryd.ntmps124
  go_wp2_with fail
  go_loop [9, 10, 11] (fun sn sl sk => ∃ m n l : Nat, m ≤ 51 ∧ sk = .int .i64 ((m : Int) - 1) ∧ sn = .int .i64 n ∧ sl = .int .i64 l ∧ n = a / 2 ^ m * b / c ∧ l = a / 2 ^ m * b % c ∧ n ≤ 1125899906842624) (fun _ _ k => (intOf k + 1).toNat)
  case atStart => exact ⟨51, 0, 0, by decide, rfl, rfl, rfl, by rw [top_zero HA.out]; simp, by rw [top_zero HA.out]; simp, by decide⟩
  case round =>
    obtain ⟨m, n, l, hm, rfl, rfl, rfl, hn, hl, hnm⟩ := hrel
    by_cases h0 : m = 0
    · subst h0
      have hp : prodV a b c = .tuple #[.int .i64 (n : Int), .int .i64 (l : Int), .bool true] := by
        simp only [Nat.pow_zero, Nat.div_one] at hn hl
        unfold prodV; rw [← hn, ← hl, if_pos hnm]
      have HP := Lib.hid hp
      clear hn hl hp hnm hm
      have hz : ((0 : Nat) : Int) - 1 = -1 := rfl
      rw [hz]
      go_wp2_with fail
      go_ret3
      exact ⟨by rw [HP.out]; rfl, rfl⟩
    · obtain ⟨k, rfl⟩ : ∃ k, m = k + 1 := ⟨m - 1, by omega⟩
      have hk : ((k + 1 : Nat) : Int) - 1 = (k : Int) := by omega
      rw [hk]
      have hlc : l < c := by rw [hl]; exact Nat.mod_lt _ HC0.out
      have hl2 : l ≤ 1125899906842624 := by have := HC.out; omega
      clear hlc hk
      have hhalf := half_of a k
      have hle := part_le a b c k
      have e0 : ((a : Int) / 2 ^ k) = ((a / 2 ^ k : Nat) : Int) := by simp
      have hb := HB.out
      have hc0 := HC0.out
      rcases bit_cases (a / 2 ^ k) with hbit | hbit
      · have t : (((a : Int) / 2 ^ k).tmod 2 == 1) = false := by
          rw [e0]
          show (((a / 2 ^ k % 2 : Nat) : Int) == 1) = _
          rw [hbit]; rfl
        obtain ⟨s1, s2⟩ := prod_step (bit := 0) hc0 hn hl
        rw [hbit] at hhalf
        rw [← hhalf, show 2 * l + 0 * b = 2 * l by omega] at s1 s2
        have hd : (2 * (l : Int)).tdiv (c : Int) = ((2 * l) / c : Nat) := by
          rw [show (2 * (l : Int)) = ((2 * l : Nat) : Int) by omega]; rfl
        have hr : (2 * (l : Int)).tmod (c : Int) = ((2 * l) % c : Nat) := by
          rw [show (2 * (l : Int)) = ((2 * l : Nat) : Int) by omega]; rfl
        have hdb : (2 * l) / c ≤ 2 * l := Nat.div_le_self _ _
        have hrb : (2 * l) % c ≤ 2 * l := Nat.mod_le _ _
        generalize (2 * l) / c = d at *
        generalize (2 * l) % c = r at *
        rw [← s1] at hle
        have S1 := Lib.hid s1; have S2 := Lib.hid s2
        clear s1 s2 hn hl hhalf e0 hbit
        by_cases hbig : 1125899906842624 < 2 * n + d
        · have hp : prodV a b c = .tuple #[.int .i64 0, .int .i64 0, .bool false] := by
            unfold prodV; rw [if_neg (by omega)]
          have HP := Lib.hid hp
          clear hp hle
          go_wp2_with fail
          go_ret3
          exact ⟨by rw [HP.out]; rfl, rfl⟩
        · clear hle
          go_wp2_with fail
          go_round
          case rel => exact ⟨k, 2 * n + d, r, by omega, rfl, by go_num, rfl, S1.out, S2.out, by omega⟩
          case measure => simp [intOf]
      · have t : (((a : Int) / 2 ^ k).tmod 2 == 1) = true := by
          rw [e0]
          show (((a / 2 ^ k % 2 : Nat) : Int) == 1) = _
          rw [hbit]; rfl
        obtain ⟨s1, s2⟩ := prod_step (bit := 1) hc0 hn hl
        rw [hbit] at hhalf
        rw [← hhalf, show 2 * l + 1 * b = 2 * l + b by omega] at s1 s2
        have hd : (2 * (l : Int) + (b : Int)).tdiv (c : Int) = ((2 * l + b) / c : Nat) := by
          rw [show (2 * (l : Int) + (b : Int)) = ((2 * l + b : Nat) : Int) by omega]; rfl
        have hr : (2 * (l : Int) + (b : Int)).tmod (c : Int) = ((2 * l + b) % c : Nat) := by
          rw [show (2 * (l : Int) + (b : Int)) = ((2 * l + b : Nat) : Int) by omega]; rfl
        have hdb : (2 * l + b) / c ≤ 2 * l + b := Nat.div_le_self _ _
        have hrb : (2 * l + b) % c ≤ 2 * l + b := Nat.mod_le _ _
        generalize (2 * l + b) / c = d at *
        generalize (2 * l + b) % c = r at *
        rw [← s1] at hle
        have S1 := Lib.hid s1; have S2 := Lib.hid s2
        clear s1 s2 hn hl hhalf e0 hbit
        by_cases hbig : 1125899906842624 < 2 * n + d
        · have hp : prodV a b c = .tuple #[.int .i64 0, .int .i64 0, .bool false] := by
            unfold prodV; rw [if_neg (by omega)]
          have HP := Lib.hid hp
          clear hp hle
          go_wp2_with fail
          go_ret3
          exact ⟨by rw [HP.out]; rfl, rfl⟩
        · clear hle
          go_wp2_with fail
          go_round
          case rel => exact ⟨k, 2 * n + d, r, by omega, rfl, by go_num, rfl, S1.out, S2.out, by omega⟩
          case measure => simp [intOf]

theorem rprod_yes {a b c : Nat} (h : a * b / c ≤ 1125899906842624) : prodV a b c = .tuple #[.int .i64 ((a * b / c : Nat) : Int), .int .i64 ((a * b % c : Nat) : Int), .bool true] := by unfold prodV; rw [if_pos h]
theorem rprod_no {a b c : Nat} (h : ¬ a * b / c ≤ 1125899906842624) : prodV a b c = .tuple #[.int .i64 0, .int .i64 0, .bool false] := by unfold prodV; rw [if_neg h]

/-- the first test of DownOf and of UpOf fails: the four ways -/
theorem ref_bad {a b c : Int} (h : ¬ (amtB a = true ∧ amtB b = true ∧ amtB c = true ∧ c ≠ 0)) : amtB a = false ∨ (amtB a = true ∧ amtB b = false) ∨ (amtB a = true ∧ amtB b = true ∧ amtB c = false) ∨ (amtB a = true ∧ amtB b = true ∧ amtB c = true ∧ c = 0) := by
  cases h1 : amtB a <;> cases h2 : amtB b <;> cases h3 : amtB c <;> simp_all

set_option maxHeartbeats 400000 in
theorem ref_DownOf_out (a b c : Int) (h : ¬ (amtB a = true ∧ amtB b = true ∧ amtB c = true ∧ c ≠ 0)) (w : World) :
    Calls Tryd.prog 56 #[.int .i64 a, .int .i64 b, .int .i64 c] w fun e w' => e = .returned (.tuple #[.int .i64 0, .int .i64 2]) ∧ w = w' := by
  rcases ref_bad h with h1 | ⟨h1, h2⟩ | ⟨h1, h2, h3⟩ | ⟨h1, h2, h3, rfl⟩
  all_goals
    clear h
    go_enter Tryd.func56, Tryd.ntmps56
    go_wp2_with (go_at_call 118; refine (refb_IsAmount _ _).mono ?_; rintro e w' ⟨rfl, rfl⟩)
    go_ret2
    exact ⟨rfl, rfl⟩
set_option maxHeartbeats 400000 in
theorem ref_UpOf_out (a b c : Int) (h : ¬ (amtB a = true ∧ amtB b = true ∧ amtB c = true ∧ c ≠ 0)) (w : World) :
    Calls Tryd.prog 57 #[.int .i64 a, .int .i64 b, .int .i64 c] w fun e w' => e = .returned (.tuple #[.int .i64 0, .int .i64 2]) ∧ w = w' := by
  rcases ref_bad h with h1 | ⟨h1, h2⟩ | ⟨h1, h2, h3⟩ | ⟨h1, h2, h3, rfl⟩
  all_goals
    clear h
    go_enter Tryd.func57, Tryd.ntmps57
    go_wp2_with (go_at_call 118; refine (refb_IsAmount _ _).mono ?_; rintro e w' ⟨rfl, rfl⟩)
    go_ret2
    exact ⟨rfl, rfl⟩
end Go.Proofs.YtajnfkmkombajabDoor
