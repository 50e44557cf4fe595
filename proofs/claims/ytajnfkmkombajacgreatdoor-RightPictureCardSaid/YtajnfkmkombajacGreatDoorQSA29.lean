/-
  Contracts of package issue.
  A chain: the picture of stakes; the ratio; a block's reward.
  The document's picture of stakes.
  Contracts of package right: Rounds.
  Contract of the document's SameInts, at the same numbers.
-/
import Derived.Test.YtajnfkmkombajacGreatDoorQSA12
import Derived.Test.YtajnfkmkombajacGreatDoorQSA04
import Derived.Test.YtajnfkmkombajacGreatDoorQSA28
import Derived.Deep.LoopGhost
import Derived.Deep.RegionHeld3
import Derived.Deep.DeepCutAuto
import Derived.Deep.CutBlock
import Derived.Test.YtajnfkmkombajacGreatDoorQSA15
import Derived.Test.YtajnfkmkombajacGreatDoorQSA17
import Derived.Test.YtajnfkmkombajacGreatDoorQSA27
import Derived.Test.YtajnfkmkombajacGreatDoorProg
import Derived.Test.YtajnfkmkombajacGreatDoorQSA01
import Derived.Deep.QuietTactic
import Derived.BigQuiet
set_option linter.unusedVariables false
set_option linter.unusedSimpArgs false
set_option linter.unusedVariables false
namespace Go.Proofs.YtajnfkmkombajacGreatDoor
open Go.RowKit

theorem issue_bend (w : World) : Calls Tryz.prog 94 #[] w fun e w' => e = .returned (.slice (some ⟨w.heap.size, 0, none⟩) 4 4) ∧ RdP w' (some ⟨w.heap.size, 0, none⟩) 4 4 rateL ∧ Below w.heap.size w w' := by
  go_enter Tryz.func94, Tryz.ntmps94
  go_wp2
  go_ret
  have hc : ∀ t o v, #[Value.int .i64 0, Value.int .i64 40000, Value.int .i64 250000, Value.int .i64 20000, Value.int .i64 500000, Value.int .i64 10000, Value.int .i64 1000000, Value.int .i64 5000][o]? = some v → (w.alloc (.cells #[Value.int .i64 0, Value.int .i64 40000, Value.int .i64 250000, Value.int .i64 20000, Value.int .i64 500000, Value.int .i64 10000, Value.int .i64 1000000, Value.int .i64 5000] t)).cell? ⟨w.heap.size, o, none⟩ = some v := fun t o v h => by
    rw [World.cell?_alloc_new]; exact h
  refine ⟨rfl, ⟨rfl, Nat.le_refl _, by decide, fun h => (by cases h), fun p hp => ?_, fun i hi => ⟨_, _, rfl, ?_, ?_⟩⟩, (Below.refl _ w).alloc (Nat.le_refl _) _⟩
  · simp only [rateL, List.mem_cons, List.not_mem_nil, or_false] at hp
    rcases hp with rfl | rfl | rfl | rfl <;> decide
  · have : i = 0 ∨ i = 1 ∨ i = 2 ∨ i = 3 := by omega
    rcases this with rfl | rfl | rfl | rfl <;> exact hc _ _ _ rfl
  · have : i = 0 ∨ i = 1 ∨ i = 2 ∨ i = 3 := by omega
    rcases this with rfl | rfl | rfl | rfl <;> exact hc _ _ _ rfl

theorem issue_look (A : Nat → Addr) (S : List Nat) (r b : Int) (w : World) (hE : Errs A S w) (h2 : 2 ∈ S) :
    Calls Tryz.prog 92 #[.int .i64 r, .int .i64 b] w fun e w' => e = .returned (ev A (rateC r b)) ∧ w = w' := by
  have g2 : w.cell? ⟨0, 0, none⟩ = some (.iface 386 (.pointer (some (A 2)))) := hE.cell 2 h2
  clear hE
  by_cases h : rateOk r b
  · have HC : Hid (rateC r b = 0) := (by unfold rateC; rw [if_pos h] : rateC r b = 0)
    obtain ⟨h0, h1, h3, h4⟩ := h
    go_enter Tryz.func92, Tryz.ntmps92
    go_wp2
    go_ret
    exact ⟨by rw [HC.out]; rfl, rfl⟩
  · have HC : Hid (rateC r b = 2) := (by unfold rateC; rw [if_neg h] : rateC r b = 2)
    by_cases c0 : r < 0
    · clear h
      go_enter Tryz.func92, Tryz.ntmps92
      go_wp2
      go_ret
      exact ⟨by rw [HC.out]; rfl, rfl⟩
    · by_cases c1 : 1000000 < r
      · clear h
        go_enter Tryz.func92, Tryz.ntmps92
        go_wp2
        go_ret
        exact ⟨by rw [HC.out]; rfl, rfl⟩
      · by_cases c2 : b < 0
        · clear h
          go_enter Tryz.func92, Tryz.ntmps92
          go_wp2
          go_ret
          exact ⟨by rw [HC.out]; rfl, rfl⟩
        · have c3 : 5000 < b := Int.not_le.1 fun hb => h ⟨by omega, by omega, by omega, hb⟩
          clear h
          go_enter Tryz.func92, Tryz.ntmps92
          go_wp2
          go_ret
          exact ⟨by rw [HC.out]; rfl, rfl⟩

theorem issue_Ratio (A : Nat → Addr) (S : List Nat) (s p : Int) (w : World) (hE : Errs A S w) (h2 : 2 ∈ S) :
    Calls Tryz.prog 36 #[.int .i64 s, .int .i64 p] w fun e w' => e = .returned (.tuple #[.int .i64 (ratioN s p), ev A (ratioC s p)]) ∧ Dr w w' := by
  have g2 : w.cell? ⟨0, 0, none⟩ = some (.iface 386 (.pointer (some (A 2)))) := hE.cell 2 h2
  have HE := Lib.hid hE; clear hE
  by_cases h : ratioOk s p
  · have HC : Hid (ratioC s p = 0) := (by unfold ratioC; rw [if_pos h] : ratioC s p = 0)
    have HN : Hid (ratioN s p = s * 1000000 / p) := (by unfold ratioN; rw [if_pos h] : ratioN s p = s * 1000000 / p)
    obtain ⟨y1, y2, _⟩ := over_yes (ratio_over h)
    have e1 : ev A (overC s 1000000 p) = .nilIface := by rw [y1]; rfl
    obtain ⟨h0, h1, h3, h4⟩ := h
    have a1 : amtB s = true := amtB_iff.2 (by omega)
    have a2 : amtB p = true := amtB_iff.2 (by omega)
    have hpe : (p == 0) = false := by simp; omega
    clear y1
    go_enter Tryz.func36, Tryz.ntmps36
    go_wp2_with (first
      | (go_at_call 90; refine (part_Amount _ _).mono ?_; rintro e w' ⟨rfl, rfl⟩)
      | (go_at_call 91; refine (part_Down A S _ _ _ _ HE.out h2).mono ?_; rintro e w' ⟨rfl, k, hk⟩; subst hk))
    go_ret2
    exact ⟨by rw [HC.out, HN.out]; rfl, k, rfl⟩
  · have HC : Hid (ratioC s p = 2) := (by unfold ratioC; rw [if_neg h] : ratioC s p = 2)
    have HN : Hid (ratioN s p = 0) := (by unfold ratioN; rw [if_neg h] : ratioN s p = 0)
    cases a1 : amtB s with
    | false =>
      clear h
      go_enter Tryz.func36, Tryz.ntmps36
      go_wp2_with (go_at_call 90; refine (part_Amount _ _).mono ?_; rintro e w' ⟨rfl, rfl⟩)
      go_quiet (fail)
      go_wp2
      go_ret2
      exact ⟨by rw [HC.out, HN.out]; rfl, _, rfl⟩
    | true =>
    cases a2 : amtB p with
    | false =>
      clear h
      go_enter Tryz.func36, Tryz.ntmps36
      go_wp2_with (go_at_call 90; refine (part_Amount _ _).mono ?_; rintro e w' ⟨rfl, rfl⟩)
      go_quiet (fail)
      go_wp2
      go_ret2
      exact ⟨by rw [HC.out, HN.out]; rfl, _, rfl⟩
    | true =>
    obtain ⟨s0, s1⟩ := amtB_iff.1 a1
    obtain ⟨p0, p1⟩ := amtB_iff.1 a2
    by_cases hp : p = 0
    · clear h
      subst hp
      go_enter Tryz.func36, Tryz.ntmps36
      go_wp2_with (go_at_call 90; refine (part_Amount _ _).mono ?_; rintro e w' ⟨rfl, rfl⟩)
      go_quiet (fail)
      go_wp2
      go_ret2
      exact ⟨by rw [HC.out, HN.out]; rfl, _, rfl⟩
    · have c3 : p < s := Int.not_le.1 fun hb => h ⟨by omega, by omega, by omega, by omega⟩
      have hpe : (p == 0) = false := by simp [hp]
      clear h hp
      go_enter Tryz.func36, Tryz.ntmps36
      go_wp2_with (go_at_call 90; refine (part_Amount _ _).mono ?_; rintro e w' ⟨rfl, rfl⟩)
      go_quiet (fail)
      go_wp2
      go_ret2
      exact ⟨by rw [HC.out, HN.out]; rfl, _, rfl⟩

theorem issue_Bonus (A : Nat → Addr) (S : List Nat) (b r : Int) (w : World) (hE : Errs A S w) (h2 : 2 ∈ S) :
    Calls Tryz.prog 162 #[.int .i64 b, .int .i64 r] w fun e w' => e = .returned (.tuple #[.int .i64 (bonusN b r), ev A (rateC r b)]) ∧ Dr w w' := by
  have HE := Lib.hid hE; clear hE
  by_cases h : rateOk r b
  · have HC : Hid (rateC r b = 0) := (by unfold rateC; rw [if_pos h] : rateC r b = 0)
    have HN : Hid (bonusN b r = if r < 480000 then min 5000 (b + 100) else if 520000 < r then max 0 (b - 100) else b) := (by unfold bonusN; rw [if_pos h] : bonusN b r = if r < 480000 then min 5000 (b + 100) else if 520000 < r then max 0 (b - 100) else b)
    have e1 : ev A (rateC r b) = .nilIface := by rw [HC.out]; rfl
    obtain ⟨h0, h1, h3, h4⟩ := h
    by_cases c1 : r < 480000
    · go_enter Tryz.func162, Tryz.ntmps162
      go_wp2_with (go_at_call 92; refine (issue_look A S _ _ _ HE.out h2).mono ?_; rintro e w' ⟨rfl, rfl⟩)
      go_ret2
      exact ⟨by rw [HC.out, HN.out]; simp [ev, *], Dr.refl _⟩
    · by_cases c2 : 520000 < r
      · go_enter Tryz.func162, Tryz.ntmps162
        go_wp2_with (go_at_call 92; refine (issue_look A S _ _ _ HE.out h2).mono ?_; rintro e w' ⟨rfl, rfl⟩)
        go_ret2
        exact ⟨by rw [HC.out, HN.out, if_neg (by omega), if_pos (by omega)]; rfl, Dr.refl _⟩
      · go_enter Tryz.func162, Tryz.ntmps162
        go_wp2_with (go_at_call 92; refine (issue_look A S _ _ _ HE.out h2).mono ?_; rintro e w' ⟨rfl, rfl⟩)
        go_ret2
        exact ⟨by rw [HC.out, HN.out, if_neg (by omega), if_neg (by omega)]; rfl, Dr.refl _⟩
  · have HC : Hid (rateC r b = 2) := (by unfold rateC; rw [if_neg h] : rateC r b = 2)
    have HN : Hid (bonusN b r = 0) := (by unfold bonusN; rw [if_neg h] : bonusN b r = 0)
    have e1 : ev A (rateC r b) = .iface 386 (.pointer (some (A 2))) := by rw [HC.out]; rfl
    clear h
    go_enter Tryz.func162, Tryz.ntmps162
    go_wp2_with (go_at_call 92; refine (issue_look A S _ _ _ HE.out h2).mono ?_; rintro e w' ⟨rfl, rfl⟩)
    go_ret2
    exact ⟨by rw [HC.out, HN.out]; rfl, Dr.refl _⟩

theorem issue_Rate (A : Nat → Addr) (S : List Nat) (r b : Int) (w : World) (hE : Errs A S w) (h2 : 2 ∈ S) (h3 : 3 ∈ S) :
    Calls Tryz.prog 38 #[.int .i64 r, .int .i64 b] w fun e w' => e = .returned (.tuple #[.int .i64 (rateN r b), ev A (rateC r b)]) ∧ Below w.heap.size w w' := by
  have HE := Lib.hid hE; clear hE
  by_cases h : rateOk r b
  · have HC : Hid (rateC r b = 0) := (by unfold rateC; rw [if_pos h] : rateC r b = 0)
    have HN : Hid (rateN r b = bendV rateL r + b) := (by unfold rateN; rw [if_pos h] : rateN r b = bendV rateL r + b)
    have e1 : ev A (rateC r b) = .nilIface := by rw [HC.out]; rfl
    obtain ⟨h0, h1, h4, h5⟩ := h
    obtain ⟨n0, n1⟩ := rateL_bounds h0 h1
    have HB : ∀ w' : World, Below w.heap.size w w' → RdP w' (some ⟨w.heap.size, 0, none⟩) 4 4 rateL → Calls Tryz.prog 93 #[.slice (some ⟨w.heap.size, 0, none⟩) 4 4, .int .i64 r] w' fun e w'' => e = .returned (.tuple #[.int .i64 (bendV rateL r), .nilIface]) ∧ Below w.heap.size w w'' := fun w' hb R =>
      (bend_ok A S _ _ _ _ _ r w' R (HE.out.below hb) h2 h3 rateL_right h0 h1).mono fun e w'' ⟨v, he, hv, hb'⟩ => by
        have e0 : bendF rateL r = (0, -1) := by unfold bendF; rw [if_neg (by simp [rateL_right]), if_neg (by omega)]
        rcases hv with ⟨_, hv⟩ | ⟨hv, _⟩
        · rw [e0] at hv he
          exact ⟨by rw [he, hv]; rfl, btrans hb hb'⟩
        · rw [e0] at hv; simp at hv
    have HB' := Lib.hid HB; clear HB
    generalize hn : bendV rateL r = n at *
    clear hn
    go_enter Tryz.func38, Tryz.ntmps38
    go_wp2_with (first
      | (go_at_call 92; refine (issue_look A S _ _ _ HE.out h2).mono ?_; rintro e w' ⟨rfl, rfl⟩)
      | (go_at_call 94; refine (issue_bend _).mono ?_; rintro e w' ⟨rfl, hR, hb⟩)
      | (go_at_call 93; refine (HB'.out _ hb hR).mono ?_; rintro e w'' ⟨rfl, hb2⟩))
    go_ret2
    exact ⟨by rw [HC.out, HN.out]; rfl, hb2⟩
  · have HC : Hid (rateC r b = 2) := (by unfold rateC; rw [if_neg h] : rateC r b = 2)
    have HN : Hid (rateN r b = 0) := (by unfold rateN; rw [if_neg h] : rateN r b = 0)
    have e1 : ev A (rateC r b) = .iface 386 (.pointer (some (A 2))) := by rw [HC.out]; rfl
    clear h
    go_enter Tryz.func38, Tryz.ntmps38
    go_wp2_with (go_at_call 92; refine (issue_look A S _ _ _ HE.out h2).mono ?_; rintro e w' ⟨rfl, rfl⟩)
    go_ret2
    exact ⟨by rw [HC.out, HN.out]; rfl, Below.refl _ _⟩

theorem issue_Reward (A : Nat → Addr) (S : List Nat) (s r : Int) (w : World) (hE : Errs A S w) (h2 : 2 ∈ S) :
    Calls Tryz.prog 40 #[.int .i64 s, .int .i64 r] w fun e w' => e = .returned (.tuple #[.int .i64 (rewardN s r), ev A (rewardC s r)]) ∧ Dr w w' := by
  have g2 : w.cell? ⟨0, 0, none⟩ = some (.iface 386 (.pointer (some (A 2)))) := hE.cell 2 h2
  have HE := Lib.hid hE; clear hE
  by_cases h : rewardOk s r
  · have HC : Hid (rewardC s r = 0) := (by unfold rewardC; rw [if_pos h] : rewardC s r = 0)
    have HN : Hid (rewardN s r = s * r / 1000000 / 4) := (by unfold rewardN; rw [if_pos h] : rewardN s r = s * r / 1000000 / 4)
    obtain ⟨y1, y2, _⟩ := over_yes (reward_over h)
    have e1 : ev A (overC s r 1000000) = .nilIface := by rw [y1]; rfl
    have q0 : 0 ≤ s * r / 1000000 := Int.ediv_nonneg (Int.mul_nonneg h.1.1 h.2.1) (by omega)
    have q1 : s * r / 1000000 ≤ 1125899906842624 := (reward_over h).2.2.2
    obtain ⟨⟨h0, h1⟩, h3, h4⟩ := h
    have a1 : amtB s = true := amtB_iff.2 (by omega)
    clear y1
    generalize s * r / 1000000 = q at *
    have hq : q.tdiv 4 = q / 4 := Int.tdiv_eq_ediv_of_nonneg q0
    go_enter Tryz.func40, Tryz.ntmps40
    go_wp2_with (first
      | (go_at_call 90; refine (part_Amount _ _).mono ?_; rintro e w' ⟨rfl, rfl⟩)
      | (go_at_call 91; refine (part_Down A S _ _ _ _ HE.out h2).mono ?_; rintro e w' ⟨rfl, k, hk⟩; subst hk))
    go_ret2
    exact ⟨by rw [HC.out, HN.out]; rfl, k, rfl⟩
  · have HC : Hid (rewardC s r = 2) := (by unfold rewardC; rw [if_neg h] : rewardC s r = 2)
    have HN : Hid (rewardN s r = 0) := (by unfold rewardN; rw [if_neg h] : rewardN s r = 0)
    cases a1 : amtB s with
    | false =>
      clear h
      go_enter Tryz.func40, Tryz.ntmps40
      go_wp2_with (go_at_call 90; refine (part_Amount _ _).mono ?_; rintro e w' ⟨rfl, rfl⟩)
      go_quiet (fail)
      go_wp2
      go_ret2
      exact ⟨by rw [HC.out, HN.out]; rfl, _, rfl⟩
    | true =>
    obtain ⟨s0, s1⟩ := amtB_iff.1 a1
    by_cases hp : r < 0
    · clear h
      go_enter Tryz.func40, Tryz.ntmps40
      go_wp2_with (go_at_call 90; refine (part_Amount _ _).mono ?_; rintro e w' ⟨rfl, rfl⟩)
      go_quiet (fail)
      go_wp2
      go_ret2
      exact ⟨by rw [HC.out, HN.out]; rfl, _, rfl⟩
    · have c3 : 1000000 < r := Int.not_le.1 fun hb => h ⟨by omega, by omega, by omega⟩
      clear h
      go_enter Tryz.func40, Tryz.ntmps40
      go_wp2_with (go_at_call 90; refine (part_Amount _ _).mono ?_; rintro e w' ⟨rfl, rfl⟩)
      go_quiet (fail)
      go_wp2
      go_ret2
      exact ⟨by rw [HC.out, HN.out]; rfl, _, rfl⟩
end Go.Proofs.YtajnfkmkombajacGreatDoor
namespace Go.Proofs.YtajnfkmkombajacGreatDoor
open Go.RowKit Go.Maps

/-- a picture under way: the weights of the first k bakers -/
def picK (s : SS) : Nat → List Int
  | 0 => [0, 0, 0]
  | 1 => [pic1 (s.staked 0), 0, 0]
  | 2 => [pic1 (s.staked 0), pic1 (s.staked 1), 0]
  | _ => [pic1 (s.staked 0), pic1 (s.staked 1), pic1 (s.staked 2)]
theorem picK_step (s : SS) (k : Nat) (hk : k < 3) : ((picK s k).map (Value.int .i64)).set k (.int .i64 (pic1 (s.staked k))) = (picK s (k + 1)).map (Value.int .i64) := by
  match k, hk with
  | 0, _ => rfl
  | 1, _ => rfl
  | 2, _ => rfl
theorem picK_len (s : SS) (k : Nat) : (picK s k).length = 3 := by unfold picK; split <;> rfl
theorem picK_zero (s : SS) (k : Nat) (hk : k < 3) (h : pic1 (s.staked k) = 0) : picK s (k + 1) = picK s k := by
  match k, hk with
  | 0, _ => show [pic1 (s.staked 0), 0, 0] = _; rw [show pic1 (s.staked 0) = 0 from h]; rfl
  | 1, _ => show [_, pic1 (s.staked 1), 0] = _; rw [show pic1 (s.staked 1) = 0 from h]; rfl
  | 2, _ => show [_, _, pic1 (s.staked 2)] = _; rw [show pic1 (s.staked 2) = 0 from h]; rfl

set_option maxRecDepth 8000 in
set_option maxHeartbeats 1000000 in
theorem right_Picture (sb n : Nat) (F : Nat → Prop) (s : SS) (w : World) (h : StakesAt sb F n s w) :
    Calls Tryz.prog 29 #[.pointer (some ⟨sb, 0, none⟩)] w fun e w' => e = .returned (.slice (some ⟨w.heap.size, 0, none⟩) 3 3) ∧ Below w.heap.size w w' ∧ RowAt w.heap.size 3 (s.picture.map (Value.int .i64)) w' := by
  have HS := Lib.hid (fun k wx (hb : Below w.heap.size w wx) => st_Staked (w := wx) k (h.below hb)); clear h
  have hmk : (Instr.makeSlice 38 (.int .i64 3) (.int .i64 3)).run Tryz.prog w = .ok (.slice (some ⟨w.heap.size, 0, none⟩) 3 3) (w.alloc (.cells #[.int .i64 0, .int .i64 0, .int .i64 0] 3)) := make_ints 3 (by decide) w
  have B0 : Below w.heap.size w (w.alloc (.cells #[.int .i64 0, .int .i64 0, .int .i64 0] 3)) := (Below.refl _ _).alloc (Nat.le_refl _) _
  have R0 := RowAt.new w 3 [.int .i64 0, .int .i64 0, .int .i64 0]
  go_enter Tryz.func29, Tryz.ntmps29
  go_wp2_with fail
  go_loopg [12] 3 (fun g c wr => ∃ k : Nat, g + k = 3 ∧ c = .int .i64 k ∧ Below w.heap.size w wr ∧ RowAt w.heap.size 3 ((picK s k).map (Value.int .i64)) wr)
  case atStart => exact ⟨0, rfl, rfl, B0, R0⟩
  case round =>
    obtain ⟨k, hg, rfl, hb, hr⟩ := hrel
    clear B0 R0 hmk
    have HB := Lib.hid hb; have HR := Lib.hid hr; have HG := Lib.hid hg; clear hb hr hg
    have hlen : ((picK s k).map (Value.int .i64)).length = 3 := by rw [List.length_map, picK_len]
    by_cases hk : k < 3
    · have cc := HR.out.cell k
      have ff := HR.out.frozen k
      obtain ⟨v0, hv0⟩ : ∃ v0, ((picK s k).map (Value.int .i64))[k]? = some v0 := ⟨_, List.getElem?_eq_getElem (by rw [hlen]; exact hk)⟩
      rw [hv0] at cc
      have HSt := Lib.hid (picK_step s k hk)
      have HZ := Lib.hid (picK_zero s k hk)
      clear hlen hv0
      go_wp2_with fail
      refine (HS.out (k : Int) _ HB.out).mono ?_
      rintro e w1 ⟨rfl, rfl⟩
      generalize s.staked k = v at *
      by_cases h1 : v < 100
      · have hp : pic1 v = 0 := if_pos h1
        go_wp2_with fail
        have hg := HG.out
        go_roundg (3 - (k + 1))
        case measure => omega
        case rel => exact ⟨k + 1, by omega, by go_num, HB.out, by rw [HZ.out hp]; exact HR.out⟩
      · have hp : pic1 v = min v 1073741824 := by unfold pic1; rw [if_neg h1]; split <;> omega
        go_wp2_with fail
        have hg := HG.out
        have hst := HR.out.set k (.int .i64 (pic1 v))
        rw [HSt.out, hp] at hst
        go_roundg (3 - (k + 1))
        case measure => omega
        case rel => exact ⟨k + 1, by omega, by go_num, HB.out.setCell (p := ⟨w.heap.size, k, none⟩) (Nat.le_refl _) _, hst⟩
    · have hk3 : k = 3 := by have := HG.out; omega
      subst hk3
      go_wp2_with fail
      go_ret
      exact ⟨rfl, HB.out, HR.out⟩

section
variable (A : Nat → Addr) (S : List Nat) (W : World) (F : Nat → Prop) (cb : Nat) (K : ChL) (n sd : Nat) (x : CS) (w : World)
theorem CS.staked_le {c : CS} (h : c.Inv) : 0 ≤ c.s.staked 0 ∧ 0 ≤ c.s.staked 1 ∧ 0 ≤ c.s.staked 2 ∧ c.s.staked 0 + c.s.staked 1 + c.s.staked 2 ≤ 1125899906842624 := by
  obtain ⟨h0, h1, h2, h3⟩ := SS.staked_bd h.s
  have hb := h.bal; have hm := h.p.most; have s0 := h.p.sum_bd
  omega
/-- what is staked with the first k bakers -/
def sumK (s : SS) : Nat → Int
  | 0 => 0
  | 1 => s.staked 0
  | 2 => s.staked 0 + s.staked 1
  | _ => s.staked 0 + s.staked 1 + s.staked 2
theorem sumK_step (s : SS) (k : Nat) (hk : k < 3) : sumK s (k + 1) = sumK s k + s.staked k := by
  match k, hk with
  | 0, _ => show s.staked 0 = 0 + s.staked 0; omega
  | 1, _ => rfl
  | 2, _ => rfl
theorem sumK_bd {s : SS} (h0 : 0 ≤ s.staked 0) (h1 : 0 ≤ s.staked 1) (h2 : 0 ≤ s.staked 2) (h3 : s.staked 0 + s.staked 1 + s.staked 2 ≤ 1125899906842624) (k : Nat) : 0 ≤ sumK s k ∧ sumK s k ≤ 1125899906842624 := by
  unfold sumK; split <;> omega

set_option maxRecDepth 8000 in
theorem chain_ratio (h : ChGo W F cb K n sd x w) (hx : x.Inv) (hE : Errs A S W) (hFE : ∀ c ∈ S, ¬ F (gE c)) (h2 : 2 ∈ S) :
    Calls Tryz.prog 157 #[.pointer (some ⟨cb, 0, none⟩)] w fun e w' => e = .returned (.int .i64 x.ratio) ∧ Dr w w' := by
  have c0 := h.c0; have c1 := h.c1
  obtain ⟨q0, q1, q2, q3⟩ := CS.staked_le hx
  have HBD := Lib.hid (sumK_bd q0 q1 q2 q3)
  have HST := Lib.hid (fun k => st_Staked (w := w) k h.ch.st)
  have HSU := Lib.hid (purse_Supply K.pb x.p w h.ch.purse)
  have HR := Lib.hid (issue_Ratio A S (sumK x.s 3) x.p.supply w (h.errs hE hFE) h2)
  have HV := Lib.hid (show ratioN (sumK x.s 3) x.p.supply = x.ratio from rfl)
  have HSK := Lib.hid (fun k hk => sumK_step x.s k hk)
  clear h hx hE hFE q0 q1 q2 q3
  go_enter Tryz.func157, Tryz.ntmps157
  go_wp2_with fail
  go_loopg [3, 7] 3 (fun g a c wr => ∃ k : Nat, g + k = 3 ∧ c = .int .i64 k ∧ a = .int .i64 (sumK x.s k) ∧ wr = w)
  case atStart => exact ⟨0, rfl, rfl, rfl, rfl⟩
  case round =>
    obtain ⟨k, hg, rfl, rfl, rfl⟩ := hrel
    have HG := Lib.hid hg; clear hg
    by_cases hk : k < 3
    · have b1 := HBD.out k
      have b2 := HBD.out (k + 1)
      rw [HSK.out k hk] at b2
      have HSt := Lib.hid (HSK.out k hk)
      go_wp2_with fail
      refine (HST.out (k : Int)).mono ?_
      rintro e w1 ⟨rfl, rfl⟩
      generalize x.s.staked k = v at *
      generalize sumK x.s k = u at *
      go_wp2_with fail
      have hg := HG.out
      go_roundg (3 - (k + 1))
      case measure => omega
      case rel => exact ⟨k + 1, by omega, by go_num, by rw [HSt.out], rfl⟩
    · have hk3 : k = 3 := by have := HG.out; omega
      subst hk3
      go_wp2_with fail
      refine HSU.out.mono ?_
      rintro e w1 ⟨rfl, rfl⟩
      go_wp2_with fail
      refine HR.out.mono ?_
      rintro e w1 ⟨rfl, d, rfl⟩
      rw [HV.out]
      generalize ratioC (sumK x.s 3) x.p.supply = rc at *
      go_wp2_with fail
      go_ret
      exact ⟨rfl, d, rfl⟩

set_option maxRecDepth 8000 in
set_option maxHeartbeats 1000000 in
/-- the reward of a block -/
theorem chain_reward (b : Int) (h : ChGo W F cb K n sd x w) (hx : x.Inv) (hE : Errs A S W) (hFE : ∀ c ∈ S, ¬ F (gE c)) (h2 : 2 ∈ S) (h3 : 3 ∈ S) (h4 : 4 ∈ S) :
    Calls Tryz.prog 95 #[.pointer (some ⟨cb, 0, none⟩), .int .i64 b] w fun e w' => e = .returned (.int .i64 (x.reward b).1) ∧ ∃ K', ChGo W F cb K' (n + 1) sd (x.reward b).2 w' := by
  have H0 := Lib.hid h
  have HEE := Lib.hid (And.intro hE hFE)
  have HX := Lib.hid hx
  obtain ⟨i0, i1⟩ := CS.issues_bd hx
  have s0 : 0 ≤ x.p.supply := by have := hx.p.sum_bd; have := hx.p.le; omega
  have s1 := hx.p.most
  have c6 := h.c6
  have HRT := Lib.hid (chain_ratio A S W F cb K n sd x (w.drewN 1) (h.drewN 1) hx hE hFE h2)
  have HI := Lib.hid (show rewardN x.p.supply (rateN x.ratio x.bonus) = x.issues from rfl)
  have HFC := Lib.hid (fun wx (hb : Below w.heap.size w wx) => (h.below hb).c6)
  clear h hx hE hFE
  go_enter Tryz.func95, Tryz.ntmps95
  go_upto_region 1 with fail
  go_cut [5, 6] (fun s5 s6 wx => s5 = .int .i64 (rateN x.ratio x.bonus) ∧ Below w.heap.size w wx)
  case first =>
    go_region_held3 (fun wx => wx.cell? ⟨cb, 6, none⟩ = some (.int .i64 x.bonus)) (first | exact HFC.out _ H2.out | exact HFC.out _ H1.out | exact HFC.out _ ((Below.refl _ _).drewN _) | exact HFC.out _ (Below.refl _ _))
      (first
        | (go_at_call 157; refine HRT.out.mono ?_; rintro y w1 ⟨rfl, d1⟩; have H1 := Lib.hid (btrans ((Below.refl _ _).drewN 1) d1.below))
        | (go_at_call 38; refine (issue_Rate A S x.ratio x.bonus _ ((H0.out.below H1.out).errs HEE.out.1 HEE.out.2) h2 h3).mono ?_; rintro y w2 ⟨rfl, b2⟩; have H2 := Lib.hid (btrans H1.out b2)))
    all_goals go_wp2_with fail
    all_goals go_meet
    all_goals (case rel => exact ⟨rfl, H2.out⟩)
  case rest =>
    obtain ⟨rfl, hb⟩ := hcut
    have H1 := Lib.hid (H0.out.below hb); clear hb c6
    have d0 := H1.out.c0
    have d1 := H1.out.c1
    go_wp2_with fail
    refine (purse_Supply K.pb x.p _ H1.out.ch.purse).mono ?_
    rintro e w1 ⟨rfl, rfl⟩
    go_wp2_with fail
    refine (issue_Reward A S x.p.supply (rateN x.ratio x.bonus) _ (H1.out.errs HEE.out.1 HEE.out.2) h2).mono ?_
    rintro e w2 ⟨rfl, d, rfl⟩
    rw [HI.out]
    have H2 := Lib.hid (H1.out.drewN d)
    generalize hr : rateN x.ratio x.bonus = rt at *
    generalize rewardC x.p.supply rt = rc at *
    go_wp2_with fail
    refine (purse_Supply K.pb x.p _ H2.out.ch.purse).mono ?_
    rintro e w1 ⟨rfl, rfl⟩
    by_cases hm : 1125899906842624 < x.p.supply + x.issues
    · have E := Lib.hid (show x.reward b = (0, x) by unfold CS.reward; rw [if_pos hm])
      have hd : decide ((1125899906842624 : Int) < x.p.supply + x.issues) = true := by simp; omega
      clear hm
      generalize x.issues = N at *
      generalize x.p.supply = P at *
      go_wp2_with fail
      go_ret
      exact ⟨by rw [E.out]; rfl, by rw [E.out]; exact ⟨K, H2.out.mono (Nat.le_succ n)⟩⟩
    · have hd : decide ((1125899906842624 : Int) < x.p.supply + x.issues) = false := by simp; omega
      have HA := Lib.hid (stake_Add A S K.sb K.Fs n x.s b x.issues _ H2.out.ch.st (H2.out.errs HEE.out.1 HEE.out.2) h2 h4)
      have HG := Lib.hid (fun wx (hp : PurseAt K.pb x.p wx) hE => purse_Grow A S K.pb x.p x.issues wx hE h2 hp)
      by_cases ha : (x.s.addOp b x.issues).1 = 0
      · rw [show ev A (x.s.addOp b x.issues).1 = .nilIface by rw [ha]; rfl] at HA
        by_cases hg : (x.p.growOp x.issues).1 = 0
        · rw [show ev A (x.p.growOp x.issues).1 = .nilIface by rw [hg]; rfl] at HG
          have E := Lib.hid (show x.reward b = (x.issues, { x with s := (x.s.addOp b x.issues).2, p := (x.p.growOp x.issues).2 }) by unfold CS.reward; rw [if_neg hm, if_neg (by simp [ha]), if_neg (by simp [hg])])
          clear hm ha hg
          generalize x.issues = N at *
          generalize hP : x.p.supply = P at *
          have d2 := H2.out.c1
          go_wp2_with fail
          refine HA.out.mono ?_
          rintro e w3 ⟨rfl, k3⟩
          have H3 := Lib.hid (H2.out.stakes (Nat.le_succ n) k3); clear k3
          have d3 := H3.out.c0
          go_wp2_with fail
          refine (HG.out _ H3.out.ch.purse (H3.out.errs HEE.out.1 HEE.out.2)).mono ?_
          rintro e w4 ⟨rfl, k4⟩
          have H4 := Lib.hid (H3.out.purse k4); clear k4
          go_wp2_with fail
          go_ret
          exact ⟨by rw [E.out]; rfl, by rw [E.out]; exact ⟨_, H4.out⟩⟩
        · rw [ev_some A hg] at HG
          have E := Lib.hid (show x.reward b = (0, { x with s := (x.s.addOp b x.issues).2, p := (x.p.growOp x.issues).2 }) by unfold CS.reward; rw [if_neg hm, if_neg (by simp [ha]), if_pos hg])
          clear hm ha hg
          generalize x.issues = N at *
          generalize hP : x.p.supply = P at *
          have d2 := H2.out.c1
          go_wp2_with fail
          refine HA.out.mono ?_
          rintro e w3 ⟨rfl, k3⟩
          have H3 := Lib.hid (H2.out.stakes (Nat.le_succ n) k3); clear k3
          have d3 := H3.out.c0
          go_wp2_with fail
          refine (HG.out _ H3.out.ch.purse (H3.out.errs HEE.out.1 HEE.out.2)).mono ?_
          rintro e w4 ⟨rfl, k4⟩
          have H4 := Lib.hid (H3.out.purse k4); clear k4
          go_wp2_with fail
          go_ret
          exact ⟨by rw [E.out]; rfl, by rw [E.out]; exact ⟨_, H4.out⟩⟩
      · rw [ev_some A ha] at HA
        have E := Lib.hid (show x.reward b = (0, { x with s := (x.s.addOp b x.issues).2 }) by unfold CS.reward; rw [if_neg hm, if_pos ha])
        clear hm ha HG
        generalize x.issues = N at *
        generalize hP : x.p.supply = P at *
        have d2 := H2.out.c1
        go_wp2_with fail
        refine HA.out.mono ?_
        rintro e w3 ⟨rfl, k3⟩
        have H3 := Lib.hid (H2.out.stakes (Nat.le_succ n) k3); clear k3
        go_wp2_with fail
        go_ret
        exact ⟨by rw [E.out]; rfl, by rw [E.out]; exact ⟨_, H3.out⟩⟩
end
end Go.Proofs.YtajnfkmkombajacGreatDoor
namespace Go.Proofs.YtajnfkmkombajacGreatDoor
open Go.RowKit Go.Maps

theorem pic_take (s : SS) {k : Nat} (hk : k < 3) : s.picture.take (k + 1) = s.picture.take k ++ [pic1 (s.staked k)] := by
  match k, hk with
  | 0, _ => rfl
  | 1, _ => rfl
  | 2, _ => rfl
set_option maxRecDepth 8000 in
set_option maxHeartbeats 1000000 in
theorem refs_PictureOf (sb : Nat) (F : Nat → Prop) (s : SS) (w : World) (h : RStAt sb F s w) :
    Calls Tryz.prog 30 #[.pointer (some ⟨sb, 0, none⟩)] w fun e w' => ∃ ao cap, e = .returned (.slice ao 3 cap) ∧ w'.ownsRow w.heap.size 3 1 (.slice ao 3 cap) 3 (s.picture.map (Value.int .i64)) ∧ Below w.heap.size w w' := by
  obtain ⟨i0, hi, hz0, hz1, hz2⟩ := info_parts Tryz.infoInt
  have HS := Lib.hid (fun k wx (hb : Below w.heap.size w wx) => show Calls Tryz.prog 22 #[.pointer (some ⟨sb, 0, none⟩), .int .i64 k] wx fun e w' => e = .returned (.int .i64 (s.staked k)) ∧ wx = w' by
    obtain ⟨L, wv, hL, -, -⟩ := h.below hb
    exact refs_Staked sb L wv s wx k hL)
  have HT := Lib.hid (fun k (hk : k < 3) => pic_take s (k := k) hk)
  clear h
  go_enter Tryz.func30, Tryz.ntmps30
  go_wp2_with fail
  go_loopg [4, 3] 3 (fun g i out wr => ∃ k : Nat, g + k = 3 ∧ i = .int .i64 k ∧ wr.ownsRow w.heap.size 3 1 out k ((s.picture.take k).map (Value.int .i64)) ∧ Below w.heap.size w wr)
  case atStart => exact ⟨0, rfl, rfl, World.ownsRow_nil _ _ _ _, Below.refl _ _⟩
  case round =>
    obtain ⟨k, hg, rfl, ho, hb⟩ := hrel
    have HG := Lib.hid hg; have HO := Lib.hid ho; have HB := Lib.hid hb; clear hg ho hb
    by_cases hlt : k < 3
    · have HTK := Lib.hid (HT.out k hlt)
      go_wp2_with fail
      refine (HS.out (k : Int) _ HB.out).mono ?_
      rintro e w1 ⟨rfl, rfl⟩
      generalize s.staked k = v at *
      have hsz := HB.out.size
      have hcases : (v < 100 ∧ pic1 v = 0) ∨ (100 ≤ v ∧ v ≤ 1073741824 ∧ pic1 v = v) ∨ (100 ≤ v ∧ 1073741824 < v ∧ pic1 v = 1073741824) := by
        unfold pic1
        by_cases h1 : v < 100
        · exact .inl ⟨h1, if_pos h1⟩
        · by_cases h2 : 1073741824 < v
          · exact .inr (.inr ⟨by omega, h2, by rw [if_neg h1, if_pos h2]⟩)
          · exact .inr (.inl ⟨by omega, by omega, by rw [if_neg h1, if_neg h2]⟩)
      rcases hcases with ⟨h1, hp⟩ | ⟨h1, h2, hp⟩ | ⟨h1, h2, hp⟩
      all_goals
        have HP := Lib.hid hp; clear hp
        go_wp2_with (at_builtin; refine wpList_append_own _ rfl (.tmp 17) (.tmp 19) 38 rfl w.heap.size 3 i0 (.int .i64 0) 1 8 Tryz.underlying38 hi hz0 hz1 hz2 rfl (by decide) u3 k ((s.picture.take k).map (Value.int .i64)) rfl (HO.out.alloc _) ⟨_, 0, none⟩ 1 1 [.int .i64 _] rfl rfl (cell_one_at _ _ _ _ (by simp)) (ints_oneCell _ [_]) (by unfold maxLen; omega) (by omega) (by simp; omega) ?_)
        intro v' w2 ho2 hg2 _
        have b2 : Below w.heap.size w w2 := Below.grown (HB.out.alloc HB.out.size _) hg2 (by simp; omega) (fun j hj => (HO.out.lt j hj).1)
        have HO2 := Lib.hid (show w2.ownsRow w.heap.size 3 1 v' (k + 1) ((s.picture.take (k + 1)).map (Value.int .i64)) by rw [HTK.out, List.map_append, HP.out, List.map_take]; exact ho2)
        have HB2 := Lib.hid b2
        clear ho2 hg2 b2
        go_wp2_with fail
        have hg := HG.out
        go_roundg (3 - (k + 1))
        case measure => omega
        case rel => exact ⟨k + 1, by omega, by go_num, HO2.out, HB2.out⟩
    · have hk3 : k = 3 := by have := HG.out; omega
      subst hk3
      obtain ⟨ao, cap, hv⟩ := own_shape HO.out
      have ho := HO.out
      rw [hv] at ho
      have HF := Lib.hid ho
      subst hv
      clear ho
      go_wp2_with fail
      go_ret
      exact ⟨ao, cap, rfl, HF.out, HB.out⟩
end Go.Proofs.YtajnfkmkombajacGreatDoor
namespace Go.Proofs.YtajnfkmkombajacGreatDoor
open Go.RowKit

/-- the bakers of a level's rounds -/
noncomputable def roundsV (zs : List Int) (s c l : Int) (k : Nat) : List Int := (List.range k).map fun r : Nat => bakerV zs s c l (r : Int)
theorem roundsV_succ (zs : List Int) (s c l : Int) (k : Nat) : roundsV zs s c l (k + 1) = roundsV zs s c l k ++ [bakerV zs s c l (k : Int)] := by simp [roundsV, List.range_succ]
theorem roundsV_length (zs : List Int) (s c l : Int) (k : Nat) : (roundsV zs s c l k).length = k := by simp [roundsV]
theorem bakerF_round (zs : List Int) (c l : Int) (k : Nat) (hk : k < 8) : bakerF zs c l (k : Int) = bakerF zs c l 0 := by
  have e : roundOk c l (k : Int) ↔ roundOk c l 0 := by unfold roundOk; omega
  unfold bakerF
  by_cases h : roundOk c l (k : Int)
  · rw [if_pos h, if_pos (e.1 h)]
  · rw [if_neg h, if_neg (fun x => h (e.2 x))]

def RoundsPost (A : Nat → Addr) (zs : List Int) (s c l : Int) (w : World) (e : Ending) (w' : World) : Prop :=
  Below w.heap.size w w' ∧ (((bakerF zs c l 0).1 ≠ 0 ∧ ∃ v, e = .returned (.tuple #[.slice none 0 0, v]) ∧ ErrIs A w w' v (bakerF zs c l 0)) ∨
    ((bakerF zs c l 0).1 = 0 ∧ ∃ ao cap, e = .returned (.tuple #[.slice ao 8 cap, .nilIface]) ∧ w'.ownsRow w.heap.size 3 1 (.slice ao 8 cap) 8 ((roundsV zs s c l 8).map (Value.int .i64))))

theorem bakerF_zero {zs : List Int} {c l r : Int} (h : (bakerF zs c l r).1 = 0) : (bakerF zs c l r).2 = -1 ∧ (weightsF zs).1 = 0 := by
  unfold bakerF at h ⊢
  split
  · next hr => rw [if_pos hr] at h; obtain ⟨hw, _⟩ := weights_ok h; rw [hw]; simp
  · next hr => rw [if_neg hr] at h; simp at h

set_option maxRecDepth 8000 in
set_option maxHeartbeats 1000000 in
theorem right_Rounds (A : Nat → Addr) (S : List Nat) (ao : Option Addr) (cap : Nat) (zs : List Int) (s : Nat) (hs : s < 18446744073709551616) (c l : Int) (w : World) (R : RdI .i64 w ao zs.length cap zs) (hE : Errs A S w) (h2 : 2 ∈ S) (h3 : 3 ∈ S) (h4 : 4 ∈ S) :
    Calls Tryz.prog 183 #[.slice ao zs.length cap, .int .u64 s, .int .i64 c, .int .i64 l] w (RoundsPost A zs s c l w) := by
  obtain ⟨i0, hi, hz0, hz1, hz2⟩ := info_parts (show (Tryz.prog.info? 3).map (fun i => (i.zero, i.size, i.bytes)) = some (some (.int .i64 0), 1, 8) by kernel_rfl)
  have HB := Lib.hid (fun r wx (hx : Below w.heap.size w wx) => right_Baker A S ao cap zs s hs c l r wx (R.below hx) (hE.below hx) h2 h3 h4)
  have HRd := Lib.hid (fun k hk => bakerF_round zs c l k hk)
  clear R hE hs
  generalize hn : zs.length = n at *
  clear hn
  go_enter Tryz.func183, Tryz.ntmps183
  go_wp2_with fail
  go_loopg [14, 10] 8 (fun g i out wr => ∃ k : Nat, g + k = 8 ∧ i = .int .i64 k ∧ wr.ownsRow w.heap.size 3 1 out k ((roundsV zs s c l k).map (Value.int .i64)) ∧ Below w.heap.size w wr ∧ (k = 0 ∨ (bakerF zs c l 0).1 = 0))
  case atStart => exact ⟨0, rfl, rfl, World.ownsRow_nil _ _ _ _, Below.refl _ _, .inl rfl⟩
  case round =>
    obtain ⟨k, hg, rfl, hown, hb, hok⟩ := hrel
    have hG := Lib.hid hg; clear hg
    have HOwn := Lib.hid hown; have HBl := Lib.hid hb; have HOk := Lib.hid hok
    clear hown hb hok
    by_cases hlt : k < 8
    · go_wp2_with fail
      refine (HB.out (k : Int) _ HBl.out).mono ?_
      rintro e w1 ⟨v, rfl, hv, hb1⟩
      have hrd := HRd.out k hlt
      rw [hrd] at hv ⊢
      have b1 := btrans HBl.out hb1
      by_cases hf : (bakerF zs c l 0).1 = 0
      · have hv0 := hv.yes hf (bakerF_zero hf).1
        subst hv0
        rw [if_pos hf]
        have own1 : w1.ownsRow w.heap.size 3 1 u10 k ((roundsV zs s c l k).map (Value.int .i64)) := by
          refine HOwn.out.kept (row := none) ⟨hb1.os, hb1.tape, hb1.output, hb1.size, fun i hi' _ => hb1.block i hi'⟩ ?_
          cases hx : Value.ownBlock u10 <;> simp
        have HO1 := Lib.hid own1; have HB1 := Lib.hid b1; have Hf := Lib.hid hf
        have hsz := b1.size
        have hsucc := roundsV_succ zs s c l k
        have HSu := Lib.hid hsucc
        generalize bakerV zs s c l (k : Int) = bv at *
        clear hv hb1 b1 own1 hf hrd hsucc
        go_wp2_with (at_builtin; refine wpList_append_own _ rfl (.tmp 29) (.tmp 31) 38 rfl w.heap.size 3 i0 (.int .i64 0) 1 8 Tryz.underlying38 hi hz0 hz1 hz2 rfl (by decide) u10 k ((roundsV zs s c l k).map (Value.int .i64)) rfl (HO1.out.alloc _) ⟨_, 0, none⟩ 1 1 [.int .i64 bv] rfl rfl (cell_one_at _ _ _ _ (by simp)) (ints_oneCell _ [_]) (by unfold maxLen; omega) (by omega) (by simp; omega) ?_)
        intro v' w2 ho2 hg2 _
        have b2 : Below w.heap.size w w2 := Below.grown (HB1.out.alloc HB1.out.size _) hg2 (by simp; omega) (fun j hj => (HO1.out.lt j hj).1)
        have HO2 := Lib.hid (show w2.ownsRow w.heap.size 3 1 v' (k + 1) ((roundsV zs s c l (k + 1)).map (Value.int .i64)) by rw [HSu.out, List.map_append]; exact ho2)
        have HB2 := Lib.hid b2
        clear ho2 hg2 b2
        go_wp2_with fail
        have hg := hG.out
        go_roundg (8 - (k + 1))
        case measure => omega
        case rel => exact ⟨k + 1, by omega, by go_num, HO2.out, HB2.out, .inr Hf.out⟩
      · obtain ⟨t, x, rfl⟩ := hv.no hf
        rw [if_neg hf]
        have hk0 : k = 0 := HOk.out.resolve_right hf
        subst hk0
        have hfin : RoundsPost A zs s c l w (.returned (.tuple #[.slice none 0 0, .iface t (.pointer (some x))])) w1 := ⟨b1, .inl ⟨hf, _, rfl, hv.since HBl.out.size⟩⟩
        have HFN := Lib.hid hfin
        clear hfin hf hv b1 hb1 hrd
        go_wp2_with fail
        go_ret2
        exact HFN.out
    · have hk8 : k = 8 := by have := hG.out; omega
      subst hk8
      have hf := HOk.out.resolve_left (by decide)
      obtain ⟨ao', cap', hv'⟩ := own_shape HOwn.out
      have ho := HOwn.out
      rw [hv'] at ho
      have hfin : RoundsPost A zs s c l w (.returned (.tuple #[u10, .nilIface])) wr := ⟨HBl.out, .inr ⟨hf, ao', cap', by rw [hv'], ho⟩⟩
      have HFN := Lib.hid hfin
      clear hfin hf ho hv'
      go_wp2_with fail
      go_ret2
      exact HFN.out
end Go.Proofs.YtajnfkmkombajacGreatDoor
namespace Go.Proofs.YtajnfkmkombajacGreatDoor
open Go.RowKit

set_option maxHeartbeats 400000 in
theorem ref_SameInts (ax ay : Option Addr) (n cx cy : Nat) (xs : List Int) (w : World) (RX : RdI .i64 w ax n cx xs) (RY : RdI .i64 w ay n cy xs) :
    Calls Tryz.prog 28 #[.slice ax n cx, .slice ay n cy] w fun e w' => e = .returned (.bool true) ∧ Dr w w' := by
  have hm : n ≤ 9223372036854775807 := by have := RX.lc; have := RX.cm; unfold maxLen at *; omega
  have HX := Lib.hid RX; have HY := Lib.hid RY
  have hne : ((n : Int) != (n : Int)) = false := bne_self_eq_false _
  clear RX RY
  go_enter Tryz.func28, Tryz.ntmps28
  go_wp2_with fail
  go_loopw [5] (fun i wr => ∃ k : Nat, k ≤ n ∧ i = .int .i64 k ∧ Dr w wr) (fun i _ => n - (intOf i).toNat)
  case atStart => exact ⟨0, Nat.zero_le _, rfl, Dr.refl _⟩
  case round =>
    obtain ⟨k, hk, rfl, d, rfl⟩ := hrel
    by_cases hlt : k < n
    · obtain ⟨b, off, ha, hc⟩ := HX.out.cells k hlt
      obtain ⟨b', off', ha', hc'⟩ := HY.out.cells k hlt
      have Ha := Lib.hid ha; have Ha' := Lib.hid ha'
      clear ha ha'
      have h1 := Ha.out; subst h1
      have h2 := Ha'.out; subst h2
      generalize xs.getD k 0 = x at *
      have hxx : (x != x) = false := bne_self_eq_false _
      have i0 : (0 : Int) ≤ (k : Int) := by omega
      have i1 : (k : Int) < (n : Int) := by omega
      go_wp2_with fail
      go_quiet (fail)
      go_wp2_with fail
      go_roundw
      case rel => exact ⟨k + 1, by omega, by go_num, d + nq, by simp [World.drewN, Nat.add_assoc]⟩
      case measure => simp [intOf]; omega
    · go_wp2
      go_ret
      exact ⟨rfl, d, rfl⟩
end Go.Proofs.YtajnfkmkombajacGreatDoor
