/- Contracts of package issue. -/
import Derived.Test.YtajnfkmkombajabDoorPlIssue
import Derived.Test.YtajnfkmkombajabDoorPart
import Derived.Test.YtajnfkmkombajabDoorBend2
set_option linter.unusedVariables false
set_option linter.unusedSimpArgs false
namespace Go.Proofs.YtajnfkmkombajabDoor
open Go.RowKit

theorem issue_bend (w : World) : Calls Tryd.prog 134 #[] w fun e w' => e = .returned (.slice (some ⟨w.heap.size, 0, none⟩) 4 4) ∧ RdP w' (some ⟨w.heap.size, 0, none⟩) 4 4 rateL ∧ Below w.heap.size w w' := by
  go_enter Tryd.func134, Tryd.ntmps134
  go_wp2
  go_ret
  have hc : ∀ t o v, #[Value.int .i64 0, Value.int .i64 40000, Value.int .i64 250000, Value.int .i64 20000, Value.int .i64 500000, Value.int .i64 10000, Value.int .i64 1000000, Value.int .i64 5000][o]? = some v → (w.alloc (.cells #[Value.int .i64 0, Value.int .i64 40000, Value.int .i64 250000, Value.int .i64 20000, Value.int .i64 500000, Value.int .i64 10000, Value.int .i64 1000000, Value.int .i64 5000] t)).cell? ⟨w.heap.size, o, none⟩ = some v := fun t o v h => by
    rw [World.cell?_alloc_new]; exact h
  refine ⟨rfl, ⟨rfl, Nat.le_refl _, by decide, fun h => (by cases h), fun p hp => ?_, fun i hi => ⟨_, _, rfl, ?_, ?_⟩⟩, (Below.refl _ w).alloc (Nat.le_refl _) _⟩
  · simp only [rateL, List.mem_cons, List.not_mem_nil, or_false] at hp
    rcases hp with rfl | rfl | rfl | rfl <;> decide
  · have : i = 0 ∨ i = 1 ∨ i = 2 ∨ i = 3 := by omega
    rcases this with rfl | rfl | rfl | rfl <;> exact hc _ _ _ rfl
  · have : i = 0 ∨ i = 1 ∨ i = 2 ∨ i = 3 := by omega
    rcases this with rfl | rfl | rfl | rfl <;> exact hc _ _ _ rfl

theorem issue_look (A : Nat → Addr) (S : List Nat) (r b : Int) (w : World) (hE : Errs A S w) (h2 : 2 ∈ S) :
    Calls Tryd.prog 133 #[.int .i64 r, .int .i64 b] w fun e w' => e = .returned (ev A (rateC r b)) ∧ w = w' := by
  have g2 : w.cell? ⟨0, 0, none⟩ = some (.iface 273 (.pointer (some (A 2)))) := hE.cell 2 h2
  clear hE
  by_cases h : rateOk r b
  · have HC : Hid (rateC r b = 0) := (by unfold rateC; rw [if_pos h] : rateC r b = 0)
    obtain ⟨h0, h1, h3, h4⟩ := h
    go_enter Tryd.func133, Tryd.ntmps133
    go_wp2
    go_ret
    exact ⟨by rw [HC.out]; rfl, rfl⟩
  · have HC : Hid (rateC r b = 2) := (by unfold rateC; rw [if_neg h] : rateC r b = 2)
    by_cases c0 : r < 0
    · clear h
      go_enter Tryd.func133, Tryd.ntmps133
      go_wp2
      go_ret
      exact ⟨by rw [HC.out]; rfl, rfl⟩
    · by_cases c1 : 1000000 < r
      · clear h
        go_enter Tryd.func133, Tryd.ntmps133
        go_wp2
        go_ret
        exact ⟨by rw [HC.out]; rfl, rfl⟩
      · by_cases c2 : b < 0
        · clear h
          go_enter Tryd.func133, Tryd.ntmps133
          go_wp2
          go_ret
          exact ⟨by rw [HC.out]; rfl, rfl⟩
        · have c3 : 5000 < b := Int.not_le.1 fun hb => h ⟨by omega, by omega, by omega, hb⟩
          clear h
          go_enter Tryd.func133, Tryd.ntmps133
          go_wp2
          go_ret
          exact ⟨by rw [HC.out]; rfl, rfl⟩

theorem issue_Ratio (A : Nat → Addr) (S : List Nat) (s p : Int) (w : World) (hE : Errs A S w) (h2 : 2 ∈ S) :
    Calls Tryd.prog 69 #[.int .i64 s, .int .i64 p] w fun e w' => e = .returned (.tuple #[.int .i64 (ratioN s p), ev A (ratioC s p)]) ∧ Dr w w' := by
  have g2 : w.cell? ⟨0, 0, none⟩ = some (.iface 273 (.pointer (some (A 2)))) := hE.cell 2 h2
  have HE := Lib.hid hE; clear hE
  by_cases h : ratioOk s p
  · have HC : Hid (ratioC s p = 0) := (by unfold ratioC; rw [if_pos h] : ratioC s p = 0)
    have HN : Hid (ratioN s p = s * 1000000 / p) := (by unfold ratioN; rw [if_pos h] : ratioN s p = s * 1000000 / p)
    obtain ⟨y1, y2, _⟩ := over_yes (ratio_over h)
    have e1 : ev A (overC s 1000000 p) = .nilIface := by rw [y1]; rfl
    obtain ⟨h0, h1, h3, h4⟩ := h
    have a1 : amtB s = true := amtB_iff.2 (by omega)
    have a2 : amtB p = true := amtB_iff.2 (by omega)
    have hpe : (p == 0) = false := by simp; omega
    clear y1
    go_enter Tryd.func69, Tryd.ntmps69
    go_wp2_with (first
      | (go_at_call 117; refine (part_Amount _ _).mono ?_; rintro e w' ⟨rfl, rfl⟩)
      | (go_at_call 54; refine (part_Down A S _ _ _ _ HE.out h2).mono ?_; rintro e w' ⟨rfl, k, hk⟩; subst hk))
    go_ret2
    exact ⟨by rw [HC.out, HN.out]; rfl, k, rfl⟩
  · have HC : Hid (ratioC s p = 2) := (by unfold ratioC; rw [if_neg h] : ratioC s p = 2)
    have HN : Hid (ratioN s p = 0) := (by unfold ratioN; rw [if_neg h] : ratioN s p = 0)
    cases a1 : amtB s with
    | false =>
      clear h
      go_enter Tryd.func69, Tryd.ntmps69
      go_wp2_with (go_at_call 117; refine (part_Amount _ _).mono ?_; rintro e w' ⟨rfl, rfl⟩)
      go_quiet (fail)
      go_wp2
      go_ret2
      exact ⟨by rw [HC.out, HN.out]; rfl, _, rfl⟩
    | true =>
    cases a2 : amtB p with
    | false =>
      clear h
      go_enter Tryd.func69, Tryd.ntmps69
      go_wp2_with (go_at_call 117; refine (part_Amount _ _).mono ?_; rintro e w' ⟨rfl, rfl⟩)
      go_quiet (fail)
      go_wp2
      go_ret2
      exact ⟨by rw [HC.out, HN.out]; rfl, _, rfl⟩
    | true =>
    obtain ⟨s0, s1⟩ := amtB_iff.1 a1
    obtain ⟨p0, p1⟩ := amtB_iff.1 a2
    by_cases hp : p = 0
    · clear h
      subst hp
      go_enter Tryd.func69, Tryd.ntmps69
      go_wp2_with (go_at_call 117; refine (part_Amount _ _).mono ?_; rintro e w' ⟨rfl, rfl⟩)
      go_quiet (fail)
      go_wp2
      go_ret2
      exact ⟨by rw [HC.out, HN.out]; rfl, _, rfl⟩
    · have c3 : p < s := Int.not_le.1 fun hb => h ⟨by omega, by omega, by omega, by omega⟩
      have hpe : (p == 0) = false := by simp [hp]
      clear h hp
      go_enter Tryd.func69, Tryd.ntmps69
      go_wp2_with (go_at_call 117; refine (part_Amount _ _).mono ?_; rintro e w' ⟨rfl, rfl⟩)
      go_quiet (fail)
      go_wp2
      go_ret2
      exact ⟨by rw [HC.out, HN.out]; rfl, _, rfl⟩

theorem issue_Bonus (A : Nat → Addr) (S : List Nat) (b r : Int) (w : World) (hE : Errs A S w) (h2 : 2 ∈ S) :
    Calls Tryd.prog 72 #[.int .i64 b, .int .i64 r] w fun e w' => e = .returned (.tuple #[.int .i64 (bonusN b r), ev A (rateC r b)]) ∧ Dr w w' := by
  have HE := Lib.hid hE; clear hE
  by_cases h : rateOk r b
  · have HC : Hid (rateC r b = 0) := (by unfold rateC; rw [if_pos h] : rateC r b = 0)
    have HN : Hid (bonusN b r = if r < 480000 then min 5000 (b + 100) else if 520000 < r then max 0 (b - 100) else b) := (by unfold bonusN; rw [if_pos h] : bonusN b r = if r < 480000 then min 5000 (b + 100) else if 520000 < r then max 0 (b - 100) else b)
    have e1 : ev A (rateC r b) = .nilIface := by rw [HC.out]; rfl
    obtain ⟨h0, h1, h3, h4⟩ := h
    by_cases c1 : r < 480000
    · go_enter Tryd.func72, Tryd.ntmps72
      go_wp2_with (go_at_call 133; refine (issue_look A S _ _ _ HE.out h2).mono ?_; rintro e w' ⟨rfl, rfl⟩)
      go_ret2
      exact ⟨by rw [HC.out, HN.out]; simp [c1, ev, *], Dr.refl _⟩
    · by_cases c2 : 520000 < r
      · go_enter Tryd.func72, Tryd.ntmps72
        go_wp2_with (go_at_call 133; refine (issue_look A S _ _ _ HE.out h2).mono ?_; rintro e w' ⟨rfl, rfl⟩)
        go_ret2
        exact ⟨by rw [HC.out, HN.out, if_neg (by omega), if_pos (by omega)]; rfl, Dr.refl _⟩
      · go_enter Tryd.func72, Tryd.ntmps72
        go_wp2_with (go_at_call 133; refine (issue_look A S _ _ _ HE.out h2).mono ?_; rintro e w' ⟨rfl, rfl⟩)
        go_ret2
        exact ⟨by rw [HC.out, HN.out, if_neg (by omega), if_neg (by omega)]; rfl, Dr.refl _⟩
  · have HC : Hid (rateC r b = 2) := (by unfold rateC; rw [if_neg h] : rateC r b = 2)
    have HN : Hid (bonusN b r = 0) := (by unfold bonusN; rw [if_neg h] : bonusN b r = 0)
    have e1 : ev A (rateC r b) = .iface 273 (.pointer (some (A 2))) := by rw [HC.out]; rfl
    clear h
    go_enter Tryd.func72, Tryd.ntmps72
    go_wp2_with (go_at_call 133; refine (issue_look A S _ _ _ HE.out h2).mono ?_; rintro e w' ⟨rfl, rfl⟩)
    go_ret2
    exact ⟨by rw [HC.out, HN.out]; rfl, Dr.refl _⟩

theorem issue_Rate (A : Nat → Addr) (S : List Nat) (r b : Int) (w : World) (hE : Errs A S w) (h2 : 2 ∈ S) (h3 : 3 ∈ S) :
    Calls Tryd.prog 71 #[.int .i64 r, .int .i64 b] w fun e w' => e = .returned (.tuple #[.int .i64 (rateN r b), ev A (rateC r b)]) ∧ Below w.heap.size w w' := by
  have HE := Lib.hid hE; clear hE
  by_cases h : rateOk r b
  · have HC : Hid (rateC r b = 0) := (by unfold rateC; rw [if_pos h] : rateC r b = 0)
    have HN : Hid (rateN r b = bendV rateL r + b) := (by unfold rateN; rw [if_pos h] : rateN r b = bendV rateL r + b)
    have e1 : ev A (rateC r b) = .nilIface := by rw [HC.out]; rfl
    obtain ⟨h0, h1, h4, h5⟩ := h
    obtain ⟨n0, n1⟩ := rateL_bounds h0 h1
    have HB : ∀ w' : World, Below w.heap.size w w' → RdP w' (some ⟨w.heap.size, 0, none⟩) 4 4 rateL → Calls Tryd.prog 58 #[.slice (some ⟨w.heap.size, 0, none⟩) 4 4, .int .i64 r] w' fun e w'' => e = .returned (.tuple #[.int .i64 (bendV rateL r), .nilIface]) ∧ Below w.heap.size w w'' := fun w' hb R =>
      (bend_ok A S _ _ _ _ _ r w' R (HE.out.below hb) h2 h3 rateL_right h0 h1).mono fun e w'' ⟨v, he, hv, hb'⟩ => by
        have e0 : bendF rateL r = (0, -1) := by unfold bendF; rw [if_neg (by simp [rateL_right]), if_neg (by omega)]
        rcases hv with ⟨_, hv⟩ | ⟨hv, _⟩
        · rw [e0] at hv he
          exact ⟨by rw [he, hv]; rfl, btrans hb hb'⟩
        · rw [e0] at hv; simp at hv
    have HB' := Lib.hid HB; clear HB
    generalize hn : bendV rateL r = n at *
    clear hn
    go_enter Tryd.func71, Tryd.ntmps71
    go_wp2_with (first
      | (go_at_call 133; refine (issue_look A S _ _ _ HE.out h2).mono ?_; rintro e w' ⟨rfl, rfl⟩)
      | (go_at_call 134; refine (issue_bend _).mono ?_; rintro e w' ⟨rfl, hR, hb⟩)
      | (go_at_call 58; refine (HB'.out _ hb hR).mono ?_; rintro e w'' ⟨rfl, hb2⟩))
    go_ret2
    exact ⟨by rw [HC.out, HN.out]; rfl, hb2⟩
  · have HC : Hid (rateC r b = 2) := (by unfold rateC; rw [if_neg h] : rateC r b = 2)
    have HN : Hid (rateN r b = 0) := (by unfold rateN; rw [if_neg h] : rateN r b = 0)
    have e1 : ev A (rateC r b) = .iface 273 (.pointer (some (A 2))) := by rw [HC.out]; rfl
    clear h
    go_enter Tryd.func71, Tryd.ntmps71
    go_wp2_with (go_at_call 133; refine (issue_look A S _ _ _ HE.out h2).mono ?_; rintro e w' ⟨rfl, rfl⟩)
    go_ret2
    exact ⟨by rw [HC.out, HN.out]; rfl, Below.refl _ _⟩

theorem issue_Reward (A : Nat → Addr) (S : List Nat) (s r : Int) (w : World) (hE : Errs A S w) (h2 : 2 ∈ S) :
    Calls Tryd.prog 76 #[.int .i64 s, .int .i64 r] w fun e w' => e = .returned (.tuple #[.int .i64 (rewardN s r), ev A (rewardC s r)]) ∧ Dr w w' := by
  have g2 : w.cell? ⟨0, 0, none⟩ = some (.iface 273 (.pointer (some (A 2)))) := hE.cell 2 h2
  have HE := Lib.hid hE; clear hE
  by_cases h : rewardOk s r
  · have HC : Hid (rewardC s r = 0) := (by unfold rewardC; rw [if_pos h] : rewardC s r = 0)
    have HN : Hid (rewardN s r = s * r / 1000000 / 4) := (by unfold rewardN; rw [if_pos h] : rewardN s r = s * r / 1000000 / 4)
    obtain ⟨y1, y2, _⟩ := over_yes (reward_over h)
    have e1 : ev A (overC s r 1000000) = .nilIface := by rw [y1]; rfl
    have q0 : 0 ≤ s * r / 1000000 := Int.ediv_nonneg (Int.mul_nonneg h.1.1 h.2.1) (by omega)
    have q1 : s * r / 1000000 ≤ 1125899906842624 := (reward_over h).2.2.2
    obtain ⟨⟨h0, h1⟩, h3, h4⟩ := h
    have a1 : amtB s = true := amtB_iff.2 (by omega)
    clear y1
    generalize s * r / 1000000 = q at *
    have hq : q.tdiv 4 = q / 4 := Int.tdiv_eq_ediv_of_nonneg q0
    go_enter Tryd.func76, Tryd.ntmps76
    go_wp2_with (first
      | (go_at_call 117; refine (part_Amount _ _).mono ?_; rintro e w' ⟨rfl, rfl⟩)
      | (go_at_call 54; refine (part_Down A S _ _ _ _ HE.out h2).mono ?_; rintro e w' ⟨rfl, k, hk⟩; subst hk))
    go_ret2
    exact ⟨by rw [HC.out, HN.out]; rfl, k, rfl⟩
  · have HC : Hid (rewardC s r = 2) := (by unfold rewardC; rw [if_neg h] : rewardC s r = 2)
    have HN : Hid (rewardN s r = 0) := (by unfold rewardN; rw [if_neg h] : rewardN s r = 0)
    cases a1 : amtB s with
    | false =>
      clear h
      go_enter Tryd.func76, Tryd.ntmps76
      go_wp2_with (go_at_call 117; refine (part_Amount _ _).mono ?_; rintro e w' ⟨rfl, rfl⟩)
      go_quiet (fail)
      go_wp2
      go_ret2
      exact ⟨by rw [HC.out, HN.out]; rfl, _, rfl⟩
    | true =>
    obtain ⟨s0, s1⟩ := amtB_iff.1 a1
    by_cases hp : r < 0
    · clear h
      go_enter Tryd.func76, Tryd.ntmps76
      go_wp2_with (go_at_call 117; refine (part_Amount _ _).mono ?_; rintro e w' ⟨rfl, rfl⟩)
      go_quiet (fail)
      go_wp2
      go_ret2
      exact ⟨by rw [HC.out, HN.out]; rfl, _, rfl⟩
    · have c3 : 1000000 < r := Int.not_le.1 fun hb => h ⟨by omega, by omega, by omega⟩
      clear h
      go_enter Tryd.func76, Tryd.ntmps76
      go_wp2_with (go_at_call 117; refine (part_Amount _ _).mono ?_; rintro e w' ⟨rfl, rfl⟩)
      go_quiet (fail)
      go_wp2
      go_ret2
      exact ⟨by rw [HC.out, HN.out]; rfl, _, rfl⟩
end Go.Proofs.YtajnfkmkombajabDoor
