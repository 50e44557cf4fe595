/-
  Contracts of package issue.
  A chain: the picture of stakes; the ratio; a block's reward.
  A chain at the end of a cycle: the cases that are due.
  A chain's pictures turn: the first goes, one comes.
-/
import Derived.Test.YtajnfkmkombajaaGreatDoorQSP04
import Derived.Test.YtajnfkmkombajaaGreatDoorQSP05
import Derived.Test.YtajnfkmkombajaaGreatDoorQSP18
import Derived.Deep.LoopGhost
import Derived.Deep.RegionHeld3
import Derived.Deep.DeepCutAuto
import Derived.Deep.CutBlock
import Derived.Test.YtajnfkmkombajaaGreatDoorQSP12
set_option linter.unusedVariables false
set_option linter.unusedSimpArgs false
set_option linter.unusedVariables false
namespace Go.Proofs.YtajnfkmkombajaaGreatDoor
open Go.RowKit
theorem issue_bend (w : World) : Calls Tryz.prog 224 #[] w fun e w' => e = .returned (.slice (some ⟨w.heap.size, 0, none⟩) 4 4) ∧ RdP w' (some ⟨w.heap.size, 0, none⟩) 4 4 rateL ∧ Below w.heap.size w w' := by
 go_enter Tryz.func224, Tryz.ntmps224
 go_wp2
 go_ret
 have hc : ∀ t o v, #[Value.int .i64 0, Value.int .i64 40000, Value.int .i64 250000, Value.int .i64 20000, Value.int .i64 500000, Value.int .i64 10000, Value.int .i64 1000000, Value.int .i64 5000][o]? = some v → (w.alloc (.cells #[Value.int .i64 0, Value.int .i64 40000, Value.int .i64 250000, Value.int .i64 20000, Value.int .i64 500000, Value.int .i64 10000, Value.int .i64 1000000, Value.int .i64 5000] t)).cell? ⟨w.heap.size, o, none⟩ = some v := fun t o v h => by
   rw [World.cell?_alloc_new]; exact h
 refine ⟨rfl, ⟨rfl, Nat.le_refl _, by decide, fun h => (by cases h), fun p hp => ?_, fun i hi => ⟨_, _, rfl, ?_, ?_⟩⟩, (Below.refl _ w).alloc (Nat.le_refl _) _⟩
 · simp only [rateL, List.mem_cons, List.not_mem_nil, or_false] at hp
   rcases hp with rfl | rfl | rfl | rfl <;> decide
 · have : i = 0 ∨ i = 1 ∨ i = 2 ∨ i = 3 := by omega
   rcases this with rfl | rfl | rfl | rfl <;> exact hc _ _ _ rfl
 · have : i = 0 ∨ i = 1 ∨ i = 2 ∨ i = 3 := by omega
   rcases this with rfl | rfl | rfl | rfl <;> exact hc _ _ _ rfl
theorem issue_look (A : Nat → Addr) (S : List Nat) (r b : Int) (w : World) (hE : Errs A S w) (h2 : 2 ∈ S) :
   Calls Tryz.prog 222 #[.int .i64 r, .int .i64 b] w fun e w' => e = .returned (ev A (rateC r b)) ∧ w = w' := by
 have g2 : w.cell? ⟨0, 0, none⟩ = some (.iface 288 (.pointer (some (A 2)))) := hE.cell 2 h2
 clear hE
 by_cases h : rateOk r b
 · have HC : Hid (rateC r b = 0) := (by unfold rateC; rw [if_pos h] : rateC r b = 0)
   obtain ⟨h0, h1, h3, h4⟩ := h
   go_enter Tryz.func222, Tryz.ntmps222
   go_wp2
   go_ret
   exact ⟨by rw [HC.out]; rfl, rfl⟩
 · have HC : Hid (rateC r b = 2) := (by unfold rateC; rw [if_neg h] : rateC r b = 2)
   by_cases c0 : r < 0
   · clear h
     go_enter Tryz.func222, Tryz.ntmps222
     go_wp2
     go_ret
     exact ⟨by rw [HC.out]; rfl, rfl⟩
   · by_cases c1 : 1000000 < r
     · clear h
       go_enter Tryz.func222, Tryz.ntmps222
       go_wp2
       go_ret
       exact ⟨by rw [HC.out]; rfl, rfl⟩
     · by_cases c2 : b < 0
       · clear h
         go_enter Tryz.func222, Tryz.ntmps222
         go_wp2
         go_ret
         exact ⟨by rw [HC.out]; rfl, rfl⟩
       · have c3 : 5000 < b := Int.not_le.1 fun hb => h ⟨by omega, by omega, by omega, hb⟩
         clear h
         go_enter Tryz.func222, Tryz.ntmps222
         go_wp2
         go_ret
         exact ⟨by rw [HC.out]; rfl, rfl⟩
theorem issue_Ratio (A : Nat → Addr) (S : List Nat) (s p : Int) (w : World) (hE : Errs A S w) (h2 : 2 ∈ S) :
   Calls Tryz.prog 225 #[.int .i64 s, .int .i64 p] w fun e w' => e = .returned (.tuple #[.int .i64 (ratioN s p), ev A (ratioC s p)]) ∧ Dr w w' := by
 have g2 : w.cell? ⟨0, 0, none⟩ = some (.iface 288 (.pointer (some (A 2)))) := hE.cell 2 h2
 have HE := Lib.hid hE; clear hE
 by_cases h : ratioOk s p
 · have HC : Hid (ratioC s p = 0) := (by unfold ratioC; rw [if_pos h] : ratioC s p = 0)
   have HN : Hid (ratioN s p = s * 1000000 / p) := (by unfold ratioN; rw [if_pos h] : ratioN s p = s * 1000000 / p)
   obtain ⟨y1, y2, _⟩ := over_yes (ratio_over h)
   have e1 : ev A (overC s 1000000 p) = .nilIface := by rw [y1]; rfl
   obtain ⟨h0, h1, h3, h4⟩ := h
   have a1 : amtB s = true := amtB_iff.2 (by omega)
   have a2 : amtB p = true := amtB_iff.2 (by omega)
   have hpe : (p == 0) = false := by simp; omega
   clear y1
   go_enter Tryz.func225, Tryz.ntmps225
   go_wp2_with (first
     | (go_at_call 137; refine (part_Amount _ _).mono ?_; rintro e w' ⟨rfl, rfl⟩)
     | (go_at_call 161; refine (part_Down A S _ _ _ _ HE.out h2).mono ?_; rintro e w' ⟨rfl, k, hk⟩; subst hk))
   go_ret2
   exact ⟨by rw [HC.out, HN.out]; rfl, k, rfl⟩
 · have HC : Hid (ratioC s p = 2) := (by unfold ratioC; rw [if_neg h] : ratioC s p = 2)
   have HN : Hid (ratioN s p = 0) := (by unfold ratioN; rw [if_neg h] : ratioN s p = 0)
   cases a1 : amtB s with
   | false =>
     clear h
     go_enter Tryz.func225, Tryz.ntmps225
     go_wp2_with (go_at_call 137; refine (part_Amount _ _).mono ?_; rintro e w' ⟨rfl, rfl⟩)
     go_quiet (fail)
     go_wp2
     go_ret2
     exact ⟨by rw [HC.out, HN.out]; rfl, _, rfl⟩
   | true =>
   cases a2 : amtB p with
   | false =>
     clear h
     go_enter Tryz.func225, Tryz.ntmps225
     go_wp2_with (go_at_call 137; refine (part_Amount _ _).mono ?_; rintro e w' ⟨rfl, rfl⟩)
     go_quiet (fail)
     go_wp2
     go_ret2
     exact ⟨by rw [HC.out, HN.out]; rfl, _, rfl⟩
   | true =>
   obtain ⟨s0, s1⟩ := amtB_iff.1 a1
   obtain ⟨p0, p1⟩ := amtB_iff.1 a2
   by_cases hp : p = 0
   · clear h
     subst hp
     go_enter Tryz.func225, Tryz.ntmps225
     go_wp2_with (go_at_call 137; refine (part_Amount _ _).mono ?_; rintro e w' ⟨rfl, rfl⟩)
     go_quiet (fail)
     go_wp2
     go_ret2
     exact ⟨by rw [HC.out, HN.out]; rfl, _, rfl⟩
   · have c3 : p < s := Int.not_le.1 fun hb => h ⟨by omega, by omega, by omega, by omega⟩
     have hpe : (p == 0) = false := by simp [hp]
     clear h hp
     go_enter Tryz.func225, Tryz.ntmps225
     go_wp2_with (go_at_call 137; refine (part_Amount _ _).mono ?_; rintro e w' ⟨rfl, rfl⟩)
     go_quiet (fail)
     go_wp2
     go_ret2
     exact ⟨by rw [HC.out, HN.out]; rfl, _, rfl⟩
theorem issue_Bonus (A : Nat → Addr) (S : List Nat) (b r : Int) (w : World) (hE : Errs A S w) (h2 : 2 ∈ S) :
   Calls Tryz.prog 205 #[.int .i64 b, .int .i64 r] w fun e w' => e = .returned (.tuple #[.int .i64 (bonusN b r), ev A (rateC r b)]) ∧ Dr w w' := by
 have HE := Lib.hid hE; clear hE
 by_cases h : rateOk r b
 · have HC : Hid (rateC r b = 0) := (by unfold rateC; rw [if_pos h] : rateC r b = 0)
   have HN : Hid (bonusN b r = if r < 480000 then min 5000 (b + 100) else if 520000 < r then max 0 (b - 100) else b) := (by unfold bonusN; rw [if_pos h] : bonusN b r = if r < 480000 then min 5000 (b + 100) else if 520000 < r then max 0 (b - 100) else b)
   have e1 : ev A (rateC r b) = .nilIface := by rw [HC.out]; rfl
   obtain ⟨h0, h1, h3, h4⟩ := h
   by_cases c1 : r < 480000
   · go_enter Tryz.func205, Tryz.ntmps205
     go_wp2_with (go_at_call 222; refine (issue_look A S _ _ _ HE.out h2).mono ?_; rintro e w' ⟨rfl, rfl⟩)
     go_ret2
     exact ⟨by rw [HC.out, HN.out]; simp [ev, *], Dr.refl _⟩
   · by_cases c2 : 520000 < r
     · go_enter Tryz.func205, Tryz.ntmps205
       go_wp2_with (go_at_call 222; refine (issue_look A S _ _ _ HE.out h2).mono ?_; rintro e w' ⟨rfl, rfl⟩)
       go_ret2
       exact ⟨by rw [HC.out, HN.out, if_neg (by omega), if_pos (by omega)]; rfl, Dr.refl _⟩
     · go_enter Tryz.func205, Tryz.ntmps205
       go_wp2_with (go_at_call 222; refine (issue_look A S _ _ _ HE.out h2).mono ?_; rintro e w' ⟨rfl, rfl⟩)
       go_ret2
       exact ⟨by rw [HC.out, HN.out, if_neg (by omega), if_neg (by omega)]; rfl, Dr.refl _⟩
 · have HC : Hid (rateC r b = 2) := (by unfold rateC; rw [if_neg h] : rateC r b = 2)
   have HN : Hid (bonusN b r = 0) := (by unfold bonusN; rw [if_neg h] : bonusN b r = 0)
   have e1 : ev A (rateC r b) = .iface 288 (.pointer (some (A 2))) := by rw [HC.out]; rfl
   clear h
   go_enter Tryz.func205, Tryz.ntmps205
   go_wp2_with (go_at_call 222; refine (issue_look A S _ _ _ HE.out h2).mono ?_; rintro e w' ⟨rfl, rfl⟩)
   go_ret2
   exact ⟨by rw [HC.out, HN.out]; rfl, Dr.refl _⟩
theorem issue_Rate (A : Nat → Addr) (S : List Nat) (r b : Int) (w : World) (hE : Errs A S w) (h2 : 2 ∈ S) (h3 : 3 ∈ S) :
   Calls Tryz.prog 196 #[.int .i64 r, .int .i64 b] w fun e w' => e = .returned (.tuple #[.int .i64 (rateN r b), ev A (rateC r b)]) ∧ Below w.heap.size w w' := by
 have HE := Lib.hid hE; clear hE
 by_cases h : rateOk r b
 · have HC : Hid (rateC r b = 0) := (by unfold rateC; rw [if_pos h] : rateC r b = 0)
   have HN : Hid (rateN r b = bendV rateL r + b) := (by unfold rateN; rw [if_pos h] : rateN r b = bendV rateL r + b)
   have e1 : ev A (rateC r b) = .nilIface := by rw [HC.out]; rfl
   obtain ⟨h0, h1, h4, h5⟩ := h
   obtain ⟨n0, n1⟩ := rateL_bounds h0 h1
   have HB : ∀ w' : World, Below w.heap.size w w' → RdP w' (some ⟨w.heap.size, 0, none⟩) 4 4 rateL → Calls Tryz.prog 223 #[.slice (some ⟨w.heap.size, 0, none⟩) 4 4, .int .i64 r] w' fun e w'' => e = .returned (.tuple #[.int .i64 (bendV rateL r), .nilIface]) ∧ Below w.heap.size w w'' := fun w' hb R =>
     (bend_ok A S _ _ _ _ _ r w' R (HE.out.below hb) h2 h3 rateL_right h0 h1).mono fun e w'' ⟨v, he, hv, hb'⟩ => by
       have e0 : bendF rateL r = (0, -1) := by unfold bendF; rw [if_neg (by simp [rateL_right]), if_neg (by omega)]
       rcases hv with ⟨_, hv⟩ | ⟨hv, _⟩
       · rw [e0] at hv he
         exact ⟨by rw [he, hv]; rfl, btrans hb hb'⟩
       · rw [e0] at hv; simp at hv
   have HB' := Lib.hid HB; clear HB
   generalize hn : bendV rateL r = n at *
   clear hn
   go_enter Tryz.func196, Tryz.ntmps196
   go_wp2_with (first
     | (go_at_call 222; refine (issue_look A S _ _ _ HE.out h2).mono ?_; rintro e w' ⟨rfl, rfl⟩)
     | (go_at_call 224; refine (issue_bend _).mono ?_; rintro e w' ⟨rfl, hR, hb⟩)
     | (go_at_call 223; refine (HB'.out _ hb hR).mono ?_; rintro e w'' ⟨rfl, hb2⟩))
   go_ret2
   exact ⟨by rw [HC.out, HN.out]; rfl, hb2⟩
 · have HC : Hid (rateC r b = 2) := (by unfold rateC; rw [if_neg h] : rateC r b = 2)
   have HN : Hid (rateN r b = 0) := (by unfold rateN; rw [if_neg h] : rateN r b = 0)
   have e1 : ev A (rateC r b) = .iface 288 (.pointer (some (A 2))) := by rw [HC.out]; rfl
   clear h
   go_enter Tryz.func196, Tryz.ntmps196
   go_wp2_with (go_at_call 222; refine (issue_look A S _ _ _ HE.out h2).mono ?_; rintro e w' ⟨rfl, rfl⟩)
   go_ret2
   exact ⟨by rw [HC.out, HN.out]; rfl, Below.refl _ _⟩
theorem issue_Reward (A : Nat → Addr) (S : List Nat) (s r : Int) (w : World) (hE : Errs A S w) (h2 : 2 ∈ S) :
   Calls Tryz.prog 198 #[.int .i64 s, .int .i64 r] w fun e w' => e = .returned (.tuple #[.int .i64 (rewardN s r), ev A (rewardC s r)]) ∧ Dr w w' := by
 have g2 : w.cell? ⟨0, 0, none⟩ = some (.iface 288 (.pointer (some (A 2)))) := hE.cell 2 h2
 have HE := Lib.hid hE; clear hE
 by_cases h : rewardOk s r
 · have HC : Hid (rewardC s r = 0) := (by unfold rewardC; rw [if_pos h] : rewardC s r = 0)
   have HN : Hid (rewardN s r = s * r / 1000000 / 4) := (by unfold rewardN; rw [if_pos h] : rewardN s r = s * r / 1000000 / 4)
   obtain ⟨y1, y2, _⟩ := over_yes (reward_over h)
   have e1 : ev A (overC s r 1000000) = .nilIface := by rw [y1]; rfl
   have q0 : 0 ≤ s * r / 1000000 := Int.ediv_nonneg (Int.mul_nonneg h.1.1 h.2.1) (by omega)
   have q1 : s * r / 1000000 ≤ 1125899906842624 := (reward_over h).2.2.2
   obtain ⟨⟨h0, h1⟩, h3, h4⟩ := h
   have a1 : amtB s = true := amtB_iff.2 (by omega)
   clear y1
   generalize s * r / 1000000 = q at *
   have hq : q.tdiv 4 = q / 4 := Int.tdiv_eq_ediv_of_nonneg q0
   go_enter Tryz.func198, Tryz.ntmps198
   go_wp2_with (first
     | (go_at_call 137; refine (part_Amount _ _).mono ?_; rintro e w' ⟨rfl, rfl⟩)
     | (go_at_call 161; refine (part_Down A S _ _ _ _ HE.out h2).mono ?_; rintro e w' ⟨rfl, k, hk⟩; subst hk))
   go_ret2
   exact ⟨by rw [HC.out, HN.out]; rfl, k, rfl⟩
 · have HC : Hid (rewardC s r = 2) := (by unfold rewardC; rw [if_neg h] : rewardC s r = 2)
   have HN : Hid (rewardN s r = 0) := (by unfold rewardN; rw [if_neg h] : rewardN s r = 0)
   cases a1 : amtB s with
   | false =>
     clear h
     go_enter Tryz.func198, Tryz.ntmps198
     go_wp2_with (go_at_call 137; refine (part_Amount _ _).mono ?_; rintro e w' ⟨rfl, rfl⟩)
     go_quiet (fail)
     go_wp2
     go_ret2
     exact ⟨by rw [HC.out, HN.out]; rfl, _, rfl⟩
   | true =>
   obtain ⟨s0, s1⟩ := amtB_iff.1 a1
   by_cases hp : r < 0
   · clear h
     go_enter Tryz.func198, Tryz.ntmps198
     go_wp2_with (go_at_call 137; refine (part_Amount _ _).mono ?_; rintro e w' ⟨rfl, rfl⟩)
     go_quiet (fail)
     go_wp2
     go_ret2
     exact ⟨by rw [HC.out, HN.out]; rfl, _, rfl⟩
   · have c3 : 1000000 < r := Int.not_le.1 fun hb => h ⟨by omega, by omega, by omega⟩
     clear h
     go_enter Tryz.func198, Tryz.ntmps198
     go_wp2_with (go_at_call 137; refine (part_Amount _ _).mono ?_; rintro e w' ⟨rfl, rfl⟩)
     go_quiet (fail)
     go_wp2
     go_ret2
     exact ⟨by rw [HC.out, HN.out]; rfl, _, rfl⟩
end Go.Proofs.YtajnfkmkombajaaGreatDoor
namespace Go.Proofs.YtajnfkmkombajaaGreatDoor
open Go.RowKit Go.Maps
def picK (s : SS) : Nat → List Int
 | 0 => [0, 0, 0]
 | 1 => [pic1 (s.staked 0), 0, 0]
 | 2 => [pic1 (s.staked 0), pic1 (s.staked 1), 0]
 | _ => [pic1 (s.staked 0), pic1 (s.staked 1), pic1 (s.staked 2)]
theorem picK_step (s : SS) (k : Nat) (hk : k < 3) : ((picK s k).map (Value.int .i64)).set k (.int .i64 (pic1 (s.staked k))) = (picK s (k + 1)).map (Value.int .i64) := by
 match k, hk with
 | 0, _ => rfl
 | 1, _ => rfl
 | 2, _ => rfl
theorem picK_len (s : SS) (k : Nat) : (picK s k).length = 3 := by unfold picK; split <;> rfl
theorem picK_zero (s : SS) (k : Nat) (hk : k < 3) (h : pic1 (s.staked k) = 0) : picK s (k + 1) = picK s k := by
 match k, hk with
 | 0, _ => show [pic1 (s.staked 0), 0, 0] = _; rw [show pic1 (s.staked 0) = 0 from h]; rfl
 | 1, _ => show [_, pic1 (s.staked 1), 0] = _; rw [show pic1 (s.staked 1) = 0 from h]; rfl
 | 2, _ => show [_, _, pic1 (s.staked 2)] = _; rw [show pic1 (s.staked 2) = 0 from h]; rfl
set_option maxRecDepth 8000 in
set_option maxHeartbeats 1000000 in
theorem right_Picture (sb n : Nat) (F : Nat → Prop) (s : SS) (w : World) (h : StakesAt sb F n s w) :
   Calls Tryz.prog 55 #[.pointer (some ⟨sb, 0, none⟩)] w fun e w' => e = .returned (.slice (some ⟨w.heap.size, 0, none⟩) 3 3) ∧ Below w.heap.size w w' ∧ RowAt w.heap.size 3 (s.picture.map (Value.int .i64)) w' := by
 have HS := Lib.hid (fun k wx (hb : Below w.heap.size w wx) => st_Staked (w := wx) k (h.below hb)); clear h
 have hmk : (Instr.makeSlice 28 (.int .i64 3) (.int .i64 3)).run Tryz.prog w = .ok (.slice (some ⟨w.heap.size, 0, none⟩) 3 3) (w.alloc (.cells #[.int .i64 0, .int .i64 0, .int .i64 0] 3)) := make_ints 3 (by decide) w
 have B0 : Below w.heap.size w (w.alloc (.cells #[.int .i64 0, .int .i64 0, .int .i64 0] 3)) := (Below.refl _ _).alloc (Nat.le_refl _) _
 have R0 := RowAt.new w 3 [.int .i64 0, .int .i64 0, .int .i64 0]
 go_enter Tryz.func55, Tryz.ntmps55
 go_wp2_with fail
 go_loopg [12] 3 (fun g c wr => ∃ k : Nat, g + k = 3 ∧ c = .int .i64 k ∧ Below w.heap.size w wr ∧ RowAt w.heap.size 3 ((picK s k).map (Value.int .i64)) wr)
 case atStart => exact ⟨0, rfl, rfl, B0, R0⟩
 case round =>
   obtain ⟨k, hg, rfl, hb, hr⟩ := hrel
   clear B0 R0 hmk
   have HB := Lib.hid hb; have HR := Lib.hid hr; have HG := Lib.hid hg; clear hb hr hg
   have hlen : ((picK s k).map (Value.int .i64)).length = 3 := by rw [List.length_map, picK_len]
   by_cases hk : k < 3
   · have cc := HR.out.cell k
     have ff := HR.out.frozen k
     obtain ⟨v0, hv0⟩ : ∃ v0, ((picK s k).map (Value.int .i64))[k]? = some v0 := ⟨_, List.getElem?_eq_getElem (by rw [hlen]; exact hk)⟩
     rw [hv0] at cc
     have HSt := Lib.hid (picK_step s k hk)
     have HZ := Lib.hid (picK_zero s k hk)
     clear hlen hv0
     go_wp2_with fail
     refine (HS.out (k : Int) _ HB.out).mono ?_
     rintro e w1 ⟨rfl, rfl⟩
     generalize s.staked k = v at *
     by_cases h1 : v < 100
     · have hp : pic1 v = 0 := if_pos h1
       go_wp2_with fail
       have hg := HG.out
       go_roundg (3 - (k + 1))
       case measure => omega
       case rel => exact ⟨k + 1, by omega, by go_num, HB.out, by rw [HZ.out hp]; exact HR.out⟩
     · have hp : pic1 v = min v 1073741824 := by unfold pic1; rw [if_neg h1]; split <;> omega
       go_wp2_with fail
       have hg := HG.out
       have hst := HR.out.set k (.int .i64 (pic1 v))
       rw [HSt.out, hp] at hst
       go_roundg (3 - (k + 1))
       case measure => omega
       case rel => exact ⟨k + 1, by omega, by go_num, HB.out.setCell (p := ⟨w.heap.size, k, none⟩) (Nat.le_refl _) _, hst⟩
   · have hk3 : k = 3 := by have := HG.out; omega
     subst hk3
     go_wp2_with fail
     go_ret
     exact ⟨rfl, HB.out, HR.out⟩
section
variable (A : Nat → Addr) (S : List Nat) (W : World) (F : Nat → Prop) (cb : Nat) (K : ChL) (n sd : Nat) (x : CS) (w : World)
theorem CS.staked_le {c : CS} (h : c.Inv) : 0 ≤ c.s.staked 0 ∧ 0 ≤ c.s.staked 1 ∧ 0 ≤ c.s.staked 2 ∧ c.s.staked 0 + c.s.staked 1 + c.s.staked 2 ≤ 1125899906842624 := by
 obtain ⟨h0, h1, h2, h3⟩ := SS.staked_bd h.s
 have hb := h.bal; have hm := h.p.most; have s0 := h.p.sum_bd
 omega
def sumK (s : SS) : Nat → Int
 | 0 => 0
 | 1 => s.staked 0
 | 2 => s.staked 0 + s.staked 1
 | _ => s.staked 0 + s.staked 1 + s.staked 2
theorem sumK_step (s : SS) (k : Nat) (hk : k < 3) : sumK s (k + 1) = sumK s k + s.staked k := by
 match k, hk with
 | 0, _ => show s.staked 0 = 0 + s.staked 0; omega
 | 1, _ => rfl
 | 2, _ => rfl
theorem sumK_bd {s : SS} (h0 : 0 ≤ s.staked 0) (h1 : 0 ≤ s.staked 1) (h2 : 0 ≤ s.staked 2) (h3 : s.staked 0 + s.staked 1 + s.staked 2 ≤ 1125899906842624) (k : Nat) : 0 ≤ sumK s k ∧ sumK s k ≤ 1125899906842624 := by
 unfold sumK; split <;> omega
set_option maxRecDepth 8000 in
theorem chain_ratio (h : ChGo W F cb K n sd x w) (hx : x.Inv) (hE : Errs A S W) (hFE : ∀ c ∈ S, ¬ F (gE c)) (h2 : 2 ∈ S) :
   Calls Tryz.prog 197 #[.pointer (some ⟨cb, 0, none⟩)] w fun e w' => e = .returned (.int .i64 x.ratio) ∧ Dr w w' := by
 have c0 := h.c0; have c1 := h.c1
 obtain ⟨q0, q1, q2, q3⟩ := CS.staked_le hx
 have HBD := Lib.hid (sumK_bd q0 q1 q2 q3)
 have HST := Lib.hid (fun k => st_Staked (w := w) k h.ch.st)
 have HSU := Lib.hid (purse_Supply K.pb x.p w h.ch.purse)
 have HR := Lib.hid (issue_Ratio A S (sumK x.s 3) x.p.supply w (h.errs hE hFE) h2)
 have HV := Lib.hid (show ratioN (sumK x.s 3) x.p.supply = x.ratio from rfl)
 have HSK := Lib.hid (fun k hk => sumK_step x.s k hk)
 clear h hx hE hFE q0 q1 q2 q3
 go_enter Tryz.func197, Tryz.ntmps197
 go_wp2_with fail
 go_loopg [3, 7] 3 (fun g a c wr => ∃ k : Nat, g + k = 3 ∧ c = .int .i64 k ∧ a = .int .i64 (sumK x.s k) ∧ wr = w)
 case atStart => exact ⟨0, rfl, rfl, rfl, rfl⟩
 case round =>
   obtain ⟨k, hg, rfl, rfl, rfl⟩ := hrel
   have HG := Lib.hid hg; clear hg
   by_cases hk : k < 3
   · have b1 := HBD.out k
     have b2 := HBD.out (k + 1)
     rw [HSK.out k hk] at b2
     have HSt := Lib.hid (HSK.out k hk)
     go_wp2_with fail
     refine (HST.out (k : Int)).mono ?_
     rintro e w1 ⟨rfl, rfl⟩
     generalize x.s.staked k = v at *
     generalize sumK x.s k = u at *
     go_wp2_with fail
     have hg := HG.out
     go_roundg (3 - (k + 1))
     case measure => omega
     case rel => exact ⟨k + 1, by omega, by go_num, by rw [HSt.out], rfl⟩
   · have hk3 : k = 3 := by have := HG.out; omega
     subst hk3
     go_wp2_with fail
     refine HSU.out.mono ?_
     rintro e w1 ⟨rfl, rfl⟩
     go_wp2_with fail
     refine HR.out.mono ?_
     rintro e w1 ⟨rfl, d, rfl⟩
     rw [HV.out]
     generalize ratioC (sumK x.s 3) x.p.supply = rc at *
     go_wp2_with fail
     go_ret
     exact ⟨rfl, d, rfl⟩
set_option maxRecDepth 8000 in
set_option maxHeartbeats 1000000 in
theorem chain_reward (b : Int) (h : ChGo W F cb K n sd x w) (hx : x.Inv) (hE : Errs A S W) (hFE : ∀ c ∈ S, ¬ F (gE c)) (h2 : 2 ∈ S) (h3 : 3 ∈ S) (h4 : 4 ∈ S) :
   Calls Tryz.prog 178 #[.pointer (some ⟨cb, 0, none⟩), .int .i64 b] w fun e w' => e = .returned (.int .i64 (x.reward b).1) ∧ ∃ K', ChGo W F cb K' (n + 1) sd (x.reward b).2 w' := by
 have H0 := Lib.hid h
 have HEE := Lib.hid (And.intro hE hFE)
 have HX := Lib.hid hx
 obtain ⟨i0, i1⟩ := CS.issues_bd hx
 have s0 : 0 ≤ x.p.supply := by have := hx.p.sum_bd; have := hx.p.le; omega
 have s1 := hx.p.most
 have c6 := h.c6
 have HRT := Lib.hid (chain_ratio A S W F cb K n sd x (w.drewN 1) (h.drewN 1) hx hE hFE h2)
 have HI := Lib.hid (show rewardN x.p.supply (rateN x.ratio x.bonus) = x.issues from rfl)
 have HFC := Lib.hid (fun wx (hb : Below w.heap.size w wx) => (h.below hb).c6)
 clear h hx hE hFE
 go_enter Tryz.func178, Tryz.ntmps178
 go_upto_region 1 with fail
 go_cut [5, 6] (fun s5 s6 wx => s5 = .int .i64 (rateN x.ratio x.bonus) ∧ Below w.heap.size w wx)
 case first =>
   go_region_held3 (fun wx => wx.cell? ⟨cb, 6, none⟩ = some (.int .i64 x.bonus)) (first | exact HFC.out _ H2.out | exact HFC.out _ H1.out | exact HFC.out _ ((Below.refl _ _).drewN _) | exact HFC.out _ (Below.refl _ _))
     (first
       | (go_at_call 197; refine HRT.out.mono ?_; rintro y w1 ⟨rfl, d1⟩; have H1 := Lib.hid (btrans ((Below.refl _ _).drewN 1) d1.below))
       | (go_at_call 196; refine (issue_Rate A S x.ratio x.bonus _ ((H0.out.below H1.out).errs HEE.out.1 HEE.out.2) h2 h3).mono ?_; rintro y w2 ⟨rfl, b2⟩; have H2 := Lib.hid (btrans H1.out b2)))
   all_goals go_wp2_with fail
   all_goals go_meet
   all_goals (case rel => exact ⟨rfl, H2.out⟩)
 case rest =>
   obtain ⟨rfl, hb⟩ := hcut
   have H1 := Lib.hid (H0.out.below hb); clear hb c6
   have d0 := H1.out.c0
   have d1 := H1.out.c1
   go_wp2_with fail
   refine (purse_Supply K.pb x.p _ H1.out.ch.purse).mono ?_
   rintro e w1 ⟨rfl, rfl⟩
   go_wp2_with fail
   refine (issue_Reward A S x.p.supply (rateN x.ratio x.bonus) _ (H1.out.errs HEE.out.1 HEE.out.2) h2).mono ?_
   rintro e w2 ⟨rfl, d, rfl⟩
   rw [HI.out]
   have H2 := Lib.hid (H1.out.drewN d)
   generalize hr : rateN x.ratio x.bonus = rt at *
   generalize rewardC x.p.supply rt = rc at *
   go_wp2_with fail
   refine (purse_Supply K.pb x.p _ H2.out.ch.purse).mono ?_
   rintro e w1 ⟨rfl, rfl⟩
   by_cases hm : 1125899906842624 < x.p.supply + x.issues
   · have E := Lib.hid (show x.reward b = (0, x) by unfold CS.reward; rw [if_pos hm])
     have hd : decide ((1125899906842624 : Int) < x.p.supply + x.issues) = true := by simp; omega
     clear hm
     generalize x.issues = N at *
     generalize x.p.supply = P at *
     go_wp2_with fail
     go_ret
     exact ⟨by rw [E.out]; rfl, by rw [E.out]; exact ⟨K, H2.out.mono (Nat.le_succ n)⟩⟩
   · have hd : decide ((1125899906842624 : Int) < x.p.supply + x.issues) = false := by simp; omega
     have HA := Lib.hid (stake_Add A S K.sb K.Fs n x.s b x.issues _ H2.out.ch.st (H2.out.errs HEE.out.1 HEE.out.2) h2 h4)
     have HG := Lib.hid (fun wx (hp : PurseAt K.pb x.p wx) hE => purse_Grow A S K.pb x.p x.issues wx hE h2 hp)
     by_cases ha : (x.s.addOp b x.issues).1 = 0
     · rw [show ev A (x.s.addOp b x.issues).1 = .nilIface by rw [ha]; rfl] at HA
       by_cases hg : (x.p.growOp x.issues).1 = 0
       · rw [show ev A (x.p.growOp x.issues).1 = .nilIface by rw [hg]; rfl] at HG
         have E := Lib.hid (show x.reward b = (x.issues, { x with s := (x.s.addOp b x.issues).2, p := (x.p.growOp x.issues).2 }) by unfold CS.reward; rw [if_neg hm, if_neg (by simp [ha]), if_neg (by simp [hg])])
         clear hm ha hg
         generalize x.issues = N at *
         generalize hP : x.p.supply = P at *
         have d2 := H2.out.c1
         go_wp2_with fail
         refine HA.out.mono ?_
         rintro e w3 ⟨rfl, k3⟩
         have H3 := Lib.hid (H2.out.stakes (Nat.le_succ n) k3); clear k3
         have d3 := H3.out.c0
         go_wp2_with fail
         refine (HG.out _ H3.out.ch.purse (H3.out.errs HEE.out.1 HEE.out.2)).mono ?_
         rintro e w4 ⟨rfl, k4⟩
         have H4 := Lib.hid (H3.out.purse k4); clear k4
         go_wp2_with fail
         go_ret
         exact ⟨by rw [E.out]; rfl, by rw [E.out]; exact ⟨_, H4.out⟩⟩
       · rw [ev_some A hg] at HG
         have E := Lib.hid (show x.reward b = (0, { x with s := (x.s.addOp b x.issues).2, p := (x.p.growOp x.issues).2 }) by unfold CS.reward; rw [if_neg hm, if_neg (by simp [ha]), if_pos hg])
         clear hm ha hg
         generalize x.issues = N at *
         generalize hP : x.p.supply = P at *
         have d2 := H2.out.c1
         go_wp2_with fail
         refine HA.out.mono ?_
         rintro e w3 ⟨rfl, k3⟩
         have H3 := Lib.hid (H2.out.stakes (Nat.le_succ n) k3); clear k3
         have d3 := H3.out.c0
         go_wp2_with fail
         refine (HG.out _ H3.out.ch.purse (H3.out.errs HEE.out.1 HEE.out.2)).mono ?_
         rintro e w4 ⟨rfl, k4⟩
         have H4 := Lib.hid (H3.out.purse k4); clear k4
         go_wp2_with fail
         go_ret
         exact ⟨by rw [E.out]; rfl, by rw [E.out]; exact ⟨_, H4.out⟩⟩
     · rw [ev_some A ha] at HA
       have E := Lib.hid (show x.reward b = (0, { x with s := (x.s.addOp b x.issues).2 }) by unfold CS.reward; rw [if_neg hm, if_pos ha])
       clear hm ha HG
       generalize x.issues = N at *
       generalize hP : x.p.supply = P at *
       have d2 := H2.out.c1
       go_wp2_with fail
       refine HA.out.mono ?_
       rintro e w3 ⟨rfl, k3⟩
       have H3 := Lib.hid (H2.out.stakes (Nat.le_succ n) k3); clear k3
       go_wp2_with fail
       go_ret
       exact ⟨by rw [E.out]; rfl, by rw [E.out]; exact ⟨_, H3.out⟩⟩
end
end Go.Proofs.YtajnfkmkombajaaGreatDoor
namespace Go.Proofs.YtajnfkmkombajaaGreatDoor
open Go.RowKit Go.Maps
section
variable {W w w' : World} {F : Nat → Prop} {cb n sd : Nat} {K : ChL} {x y : CS} {v : Value} {D : List (Int × EV)}
structure EndS (W : World) (F : Nat → Prop) (cb : Nat) (K : ChL) (n sd : Nat) (x : CS) (v : Value) (D : List (Int × EV)) (w : World) : Prop where
 go : ChGo W F cb K n sd x w
 row : w.ownsRow 0 222 4 v D.length (casesE D)
 inK : ∀ g, v.ownBlock = some g → K.Fk g
theorem EndS.below (h : EndS W F cb K n sd x v D w) (b : Below w.heap.size w w') : EndS W F cb K n sd x v D w' := ⟨h.go.below b, ownsRow_other h.row (fun g hg => b.block g (h.row.lt g hg).2), h.inK⟩
theorem EndS.purse (h : EndS W F cb K n sd x v D w) {p : PS} (k : PurseP K.pb p w w') : EndS W F cb K n sd { x with p := p } v D w' :=
 ⟨h.go.purse k, ownsRow_other h.row (fun g hg => k.1.block g (h.row.lt g hg).2 (fun e => h.go.ch.d1.2.1 (by rw [← e]; exact h.inK g hg))), h.inK⟩
theorem EndS.stakes (h : EndS W F cb K n sd x v D w) {s : SS} (k : StakesP K.sb K.Fs n s w w') : EndS W F cb (K.withS w w') n sd { x with s := s } v D w' :=
 ⟨h.go.stakes (Nat.le_refl n) k, ownsRow_other h.row (fun g hg => k.1.block g (h.row.lt g hg).2 (fun e => (h.go.ch.d2 g e).1 (h.inK g hg))), h.inK⟩
structure EndB (W : World) (F : Nat → Prop) (cb : Nat) (K : ChL) (n sd : Nat) (x : CS) (v : Value) (D : List (Int × EV)) (g : Nat) (c : Int × EV) (w : World) : Prop where
 s : EndS W F cb K n sd x v D w
 gN : ¬ K.foot cb g
 glt : g < w.heap.size
 b0 : w.cell? ⟨g, 0, none⟩ = some (.int .i64 c.1)
 b1 : w.cell? ⟨g, 1, none⟩ = some (.int .i64 c.2.b)
 b2 : w.cell? ⟨g, 2, none⟩ = some (.int .i64 c.2.c)
 b3 : w.cell? ⟨g, 3, none⟩ = some (.int .i64 c.2.n)
variable {g : Nat} {c : Int × EV}
theorem EndS.box (h : EndS W F cb K n sd x v D w) (c : Int × EV) (t : TypeId) : EndB W F cb K n sd x v D w.heap.size c (w.alloc (.cells #[.int .i64 c.1, .int .i64 c.2.b, .int .i64 c.2.c, .int .i64 c.2.n] t)) := by
 have hn := heap_alloc_new w (.cells #[.int .i64 c.1, .int .i64 c.2.b, .int .i64 c.2.c, .int .i64 c.2.n] t)
 refine ⟨h.below ((Below.refl _ w).alloc (Nat.le_refl _) _), fun hf => by have := h.go.ch.footlt _ hf; omega, by simp, ?_, ?_, ?_, ?_⟩
 all_goals (unfold World.cell?; rw [hn]; simp)
theorem EndB.below (h : EndB W F cb K n sd x v D g c w) (b : Below w.heap.size w w') : EndB W F cb K n sd x v D g c w' :=
 ⟨h.s.below b, h.gN, Nat.lt_of_lt_of_le h.glt b.size, by rw [b.cell (p := ⟨g, 0, none⟩) h.glt]; exact h.b0, by rw [b.cell (p := ⟨g, 1, none⟩) h.glt]; exact h.b1, by rw [b.cell (p := ⟨g, 2, none⟩) h.glt]; exact h.b2, by rw [b.cell (p := ⟨g, 3, none⟩) h.glt]; exact h.b3⟩
theorem EndB.keep {G : Nat → Prop} {K' : ChL} (h : EndB W F cb K n sd x v D g c w) (k : Keep G w w') (hG : ∀ b, G b → K.foot cb b) (hs : EndS W F cb K' n sd y v D w') (hf : ∀ b, K'.foot cb b → K.foot cb b ∨ (w.heap.size ≤ b ∧ b < w'.heap.size)) : EndB W F cb K' n sd y v D g c w' := by
 have hn : ¬ G g := fun e => h.gN (hG g e)
 refine ⟨hs, fun e => ?_, Nat.lt_of_lt_of_le h.glt k.size, by rw [k.cell (p := ⟨g, 0, none⟩) h.glt hn]; exact h.b0, by rw [k.cell (p := ⟨g, 1, none⟩) h.glt hn]; exact h.b1, by rw [k.cell (p := ⟨g, 2, none⟩) h.glt hn]; exact h.b2, by rw [k.cell (p := ⟨g, 3, none⟩) h.glt hn]; exact h.b3⟩
 rcases hf g e with e | e
 · exact h.gN e
 · have := h.glt; omega
theorem EndB.purse (h : EndB W F cb K n sd x v D g c w) {p : PS} (k : PurseP K.pb p w w') : EndB W F cb K n sd { x with p := p } v D g c w' :=
 h.keep k.1 (fun b hb => .inr (.inl hb)) (h.s.purse k) (fun b hb => .inl hb)
theorem EndB.stakes (h : EndB W F cb K n sd x v D g c w) {s : SS} (k : StakesP K.sb K.Fs n s w w') : EndB W F cb (K.withS w w') n sd { x with s := s } v D g c w' :=
 h.keep k.1 (fun b hb => .inr (.inr (.inl hb))) (h.s.stakes k) (fun b hb => by
   rcases hb with hb | hb | hb | hb
   · exact .inl (.inl hb)
   · exact .inl (.inr (.inl hb))
   · rcases hb with hb | hb
     · exact .inl (.inr (.inr (.inl hb)))
     · exact .inr hb
   · exact .inl (.inr (.inr (.inr hb))))
end
def CS.judgedK (x : CS) (j : Nat) : CS := { (x.k.due.take j).foldl CS.judge x with k := x.k.asked }
theorem CS.judgedK_step (x : CS) (j : Nat) (c : Int × EV) (h : x.k.due[j]? = some c) : x.judgedK (j + 1) = (x.judgedK j).judge c := by
 unfold CS.judgedK
 rw [List.take_add_one, h]
 simp only [Option.toList_some, List.foldl_append, List.foldl_cons, List.foldl_nil]
 rfl
theorem CS.judgedK_all (x : CS) : x.judgedK x.k.due.length = { x.judged with k := x.k.asked } := by
 unfold CS.judgedK CS.judged; rw [List.take_length]
theorem CS.judgedK_len (x : CS) (j : Nat) : (x.judgedK j).s.W.length = x.s.W.length := by
 have : ∀ (l : List (Int × EV)) (y : CS), (l.foldl CS.judge y).s.W.length = y.s.W.length := by
   intro l
   induction l with
   | nil => intro y; rfl
   | cons c l ih => intro y; rw [List.foldl_cons, ih]; exact SS.slash_len _ _ _ _
 exact this _ _
theorem CS.judgedK_inv {x : CS} (h : x.Inv) (j : Nat) : (x.judgedK j).Inv := by
 have hd : ∀ c ∈ x.k.due.take j, ownB c.1 = true := fun c hc => (h.known c (List.mem_of_mem_drop (List.mem_of_mem_take hc))).1
 obtain ⟨a, b, d1, d2, d3, d4, d5⟩ := CS.judges_inv (x.k.due.take j) h hd
 refine ⟨a.p, a.s, a.reg, a.bal, h.known, Nat.le_refl _, a.b0, a.b1, a.three, a.pic, a.cy, a.lv⟩
end Go.Proofs.YtajnfkmkombajaaGreatDoor
namespace Go.Proofs.YtajnfkmkombajaaGreatDoor
open Go.RowKit Go.Maps
theorem foldl_max3 (a b c : Int) (ha : 0 ≤ a) (hb : 0 ≤ b) (hc : 0 ≤ c) : (Lib.maxOf ([a, b, c].take 3) = 0) ↔ ([a, b, c] = [0, 0, 0]) := by
 unfold Lib.maxOf
 simp only [List.take_succ_cons, List.take_nil, List.headD_cons, List.foldl_cons, List.foldl_nil, List.cons.injEq, and_true]
 omega
theorem pic_max {s : SS} (h : s.Ok) : (Lib.maxOf (s.picture.take 3) = 0) ↔ (s.picture = [0, 0, 0]) := by
 obtain ⟨h0, h1, h2, _⟩ := SS.staked_bd h
 exact foldl_max3 _ _ _ (pic1_bd _ h0).1 (pic1_bd _ h1).1 (pic1_bd _ h2).1
section
variable {W w w1 w3 : World} {F : Nat → Prop} {cb n sd : Nat} {K : ChL} {x : CS}
theorem ChGo.pics (h : ChGo W F cb K n sd x w) {G : Nat → Prop} (k : Keep G w w3) (hG : ∀ b, G b → K.Fp b) {pv2 : Value} {pics2 : List (List Int)} (hp : PicsAt (grownF K.Fp w w3) pv2 pics2 (w3.setCell ⟨cb, 7, none⟩ pv2)) :
   ChGo W F cb { K with Fp := grownF K.Fp w w3, pv := pv2 } n sd { x with pics := pics2 } (w3.setCell ⟨cb, 7, none⟩ pv2) := by
 have c := h.ch
 have k5 : Keep (fun b => G b ∨ b = cb) w (w3.setCell ⟨cb, 7, none⟩ pv2) := (k.mono (fun b hb => .inl hb)).setCell (p := ⟨cb, 7, none⟩) (.inl (.inr rfl)) pv2
 have hs : (w3.setCell ⟨cb, 7, none⟩ pv2).heap.size = w3.heap.size := by simp [World.setCell]
 have hcb := c.row.lt
 have hpb : K.pb < w.heap.size := c.purse.lt
 have hrow : RowAt cb 105 (chainVs K sd x) w3 := c.row.keep k (fun e => c.d0.2.2.2 (hG _ e))
 refine h.step k5 (fun b hb => ?_) ⟨hrow.set 7 pv2, c.purse.keep k5 ?_, c.st.keep k5 (fun b hb e => ?_), c.ct.keep k5 (fun b hb e => ?_), hp, fun b hb => ?_, ⟨c.d0.1, c.d0.2.1, c.d0.2.2.1, ?_⟩, ⟨c.d1.1, c.d1.2.1, ?_⟩, fun b hb => ⟨(c.d2 b hb).1, ?_⟩, fun b hb => ?_⟩ (fun b hb => ?_)
 · rcases hb with hb | hb
   · exact .inr (.inr (.inr (.inr (hG b hb))))
   · exact .inl hb
 · rintro (e | e)
   · exact c.d1.2.2 (hG _ e)
   · exact c.d0.1 e.symm
 · rcases e with e | e
   · exact (c.d2 b hb).2 (hG b e)
   · exact c.d0.2.1 (by rw [← e]; exact hb)
 · rcases e with e | e
   · exact c.d3 b hb (hG b e)
   · exact c.d0.2.2.1 (by rw [← e]; exact hb)
 · rw [hs]
   rcases hb with hb | hb
   · exact Nat.lt_of_lt_of_le (c.pl b hb) k.size
   · exact hb.2
 · rintro (e | e)
   · exact c.d0.2.2.2 e
   · omega
 · rintro (e | e)
   · exact c.d1.2.2 e
   · have := e.1; simp only at this; omega
 · rintro (e | e)
   · exact (c.d2 b hb).2 e
   · have := c.st.lt hb; omega
 · rintro (e | e)
   · exact c.d3 b hb e
   · have := c.ct.lt b hb; omega
 · rcases hb with hb | hb | hb | hb | hb
   · exact .inl (.inl hb)
   · exact .inl (.inr (.inl hb))
   · exact .inl (.inr (.inr (.inl hb)))
   · exact .inl (.inr (.inr (.inr (.inl hb))))
   · rcases hb with hb | hb
     · exact .inl (.inr (.inr (.inr (.inr hb))))
     · exact .inr ⟨hb.1, by rw [hs]; exact hb.2⟩
theorem PicsAt.appended {Fp : Nat → Prop} {pv pv2 u : Value} {pics : List (List Int)} {vs1 : List Value} {z : List Int} {x : Value} {m : Nat}
   (hl : ∀ b, Fp b → b < w.heap.size) (hblk : ∀ g, pv.ownBlock = some g → Fp g) (hlen : vs1.length = pics.length)
   (h1 : ∀ (i : Nat) v z, vs1[i]? = some v → pics[i]? = some z → ∃ ao cap, v = .slice ao z.length cap ∧ RdI .i64 w ao z.length cap z ∧ ∀ a, ao = some a → Fp a.block ∧ pv.ownBlock ≠ some a.block)
   (hb1 : Below w.heap.size w w1) (hg : w1.grownBy w3 pv.ownBlock) (ho : OwnSl 0 28 pv2 (vs1 ++ [u]) w3) (hor : pv2.ownBlock = pv.ownBlock ∨ pv2.ownBlock = some w1.heap.size) (hsz : ∀ g, pv2.ownBlock = some g → g < w3.heap.size)
   (hu : ∃ pa pc, u = .slice pa z.length pc ∧ RdI .i64 w1 pa z.length pc z ∧ ∀ a, pa = some a → (Fp a.block ∨ (w.heap.size ≤ a.block ∧ a.block < w1.heap.size)) ∧ pv.ownBlock ≠ some a.block)
   (hcb : ¬ Fp cb) (hcbl : cb < w.heap.size) : PicsAt (grownF Fp w w3) pv2 (pics ++ [z]) (w3.setCell ⟨cb, m, none⟩ x) := by
 have hs1 := hb1.size
 have hs3 := hg.size
 have K1 : Keep (fun b => pv.ownBlock = some b) w w3 := (Keep.of_below hb1).grown hg (fun k hk => .inl hk)
 have K2 : Keep (fun b => pv.ownBlock = some b) w1 w3 := (Keep.refl _ _).grown hg (fun k hk => .inl hk)
 have hpn : ∀ g, pv2.ownBlock = some g → Fp g ∨ g = w1.heap.size := fun g hg' => by
   rcases hor with h | h
   · exact .inl (hblk g (by rw [← h]; exact hg'))
   · rw [h] at hg'; exact .inr (by simpa using hg'.symm)
 have hset : ∀ G, Keep G w3 (w3.setCell ⟨cb, m, none⟩ x) → True := fun _ _ => trivial
 have K3 : Keep (fun b => b = cb) w3 (w3.setCell ⟨cb, m, none⟩ x) := (Keep.refl _ _).put x
 refine ⟨⟨vs1 ++ [u], ho.keep K3 (fun g hg' e => ?_), by simp [hlen], fun i v z' hv hz => ?_⟩, fun g hg' => ?_⟩
 · rcases hpn g hg' with h | h
   · exact hcb (by rw [← e]; exact h)
   · omega
 · by_cases hi : i < vs1.length
   · rw [List.getElem?_append_left hi] at hv
     rw [List.getElem?_append_left (by omega)] at hz
     obtain ⟨ao, cap, e, R, hb⟩ := h1 i v z' hv hz
     refine ⟨ao, cap, e, (R.keep K1 (fun a ha he => (hb a ha).2 he)).keep K3 (fun a ha he => hcb (by rw [← he]; exact (hb a ha).1)), fun a ha => ⟨.inl (hb a ha).1, fun he => ?_⟩⟩
     rcases hor with h | h
     · exact (hb a ha).2 (by rw [← h]; exact he)
     · rw [h] at he
       have : w1.heap.size = a.block := by simpa using he
       have := hl _ (hb a ha).1
       omega
   · rw [List.getElem?_append_right (by omega)] at hv hz
     have hi0 : i - vs1.length = 0 := by
       have := (List.getElem?_eq_some_iff.1 hv).1; simp at this; omega
     rw [hi0] at hv
     rw [← hlen, hi0] at hz
     simp at hv hz
     subst hv hz
     obtain ⟨pa, pc, e, R, hb⟩ := hu
     refine ⟨pa, pc, e, (R.keep K2 (fun a ha he => (hb a ha).2 he)).keep K3 (fun a ha he => ?_), fun a ha => ⟨?_, fun he => ?_⟩⟩
     · rcases (hb a ha).1 with h | h
       · exact hcb (by rw [← he]; exact h)
       · omega
     · rcases (hb a ha).1 with h | h
       · exact .inl h
       · exact .inr ⟨h.1, by omega⟩
     · rcases hor with h | h
       · exact (hb a ha).2 (by rw [← h]; exact he)
       · rw [h] at he
         have : w1.heap.size = a.block := by simpa using he
         rcases (hb a ha).1 with h' | h'
         · have := hl _ h'; omega
         · omega
 · rcases hpn g hg' with h | h
   · exact .inl h
   · exact .inr ⟨by omega, hsz g hg'⟩
end
theorem RdI.keepX {F : Nat → Prop} {k : IntKind} {w w' : World} {ao : Option Addr} {len cap : Nat} {zs : List Int} (h : RdI k w ao len cap zs) (K : Keep F w w') (hF : ∀ a, ao = some a → ¬ F a.block) : RdI k w' ao len cap zs := h.keep K hF
theorem infoSl : (Tryz.prog.info? 28).map (fun i => (i.zero, i.size, i.bytes)) = some (some (.slice none 0 0), 1, 24) := by kernel_rfl
end Go.Proofs.YtajnfkmkombajaaGreatDoor
