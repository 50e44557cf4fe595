/- Contract of Bend where it is an error. -/
import Derived.Test.YtajnfkmkombajabDoorBend2
set_option linter.unusedVariables false
set_option linter.unusedSimpArgs false
namespace Go.Proofs.YtajnfkmkombajabDoor
open Go.RowKit

theorem bendF_check {l : List (Int × Int)} {x : Int} (h : (checkF l).1 ≠ 0) : bendF l x = checkF l := by unfold bendF; rw [if_pos h]
theorem bendF_place {l : List (Int × Int)} {x : Int} (h : (checkF l).1 = 0) (hx : x < 0 ∨ 1000000 < x) : bendF l x = (2, -1) := by unfold bendF; rw [if_neg (by simp [h]), if_pos hx]

set_option maxHeartbeats 1000000 in
/-- a bend that is none, or a place that is none -/
theorem bend_bad (A : Nat → Addr) (S : List Nat) (ao : Option Addr) (len cap : Nat) (l : List (Int × Int)) (x : Int) (w : World) (R : RdP w ao len cap l) (hE : Errs A S w) (h2 : 2 ∈ S) (h3 : 3 ∈ S)
    (hf : (bendF l x).1 ≠ 0) : Calls Tryd.prog 58 #[.slice ao len cap, .int .i64 x] w (BendPost A l x w) := by
  have HC := Lib.hid (part_Check A S _ _ _ _ _ R hE h2 h3)
  have HE := Lib.hid hE; clear hE
  clear R
  by_cases hc : (checkF l).1 = 0
  · have hx : x < 0 ∨ 1000000 < x := by
      apply Decidable.byContradiction
      intro hx; exact hf (by unfold bendF; rw [if_neg (by simp [hc]), if_neg hx])
    have HB := Lib.hid (bendF_place hc hx)
    have HZ := Lib.hid (checkF_zero hc)
    clear hf hc
    have hx' : x < 0 ∨ (0 ≤ x ∧ 1000000 < x) := by omega
    clear hx
    rcases hx' with h0 | ⟨h0, h1⟩
    all_goals
      go_enter Tryd.func58, Tryd.ntmps58
      go_wp2_with fail
      refine HC.out.mono ?_
      rintro e w1 ⟨v, rfl, hv, hb1⟩
      have hv0 : v = .nilIface := by
        rw [HZ.out] at hv
        rcases hv with ⟨_, hv⟩ | ⟨hn, _⟩
        · rw [hv]; rfl
        · simp at hn
      subst hv0
      have g2 : w1.cell? ⟨0, 0, none⟩ = some (.iface 273 (.pointer (some (A 2)))) := (HE.out.below hb1).cell 2 h2
      have Hb1 := Lib.hid hb1; clear hb1 hv
      go_wp2_with fail
      go_quiet (fail)
      go_wp2
      go_ret2
      exact ⟨_, by rw [HB.out]; rfl, .inl ⟨by rw [HB.out], by rw [HB.out]; rfl⟩, Hb1.out.drewN _⟩
  · have HB := Lib.hid (bendF_check (x := x) hc)
    have HN := Lib.hid hc
    clear hf hc
    go_enter Tryd.func58, Tryd.ntmps58
    go_wp2_with fail
    refine HC.out.mono ?_
    rintro e w1 ⟨v, rfl, hv, hb1⟩
    have Hb1 := Lib.hid hb1; clear hb1
    have HV := Lib.hid hv
    rcases hv with ⟨ha, hv⟩ | ⟨ha, g, _, hv, c0, c1⟩
    · rw [ev_some A HN.out] at hv
      subst hv
      clear ha
      go_wp2
      go_ret2
      exact ⟨_, by rw [HB.out, if_neg HN.out]; rfl, by rw [HB.out]; exact HV.out, Hb1.out⟩
    · subst hv
      clear ha c0 c1
      go_wp2
      go_ret2
      exact ⟨_, by rw [HB.out, if_neg HN.out]; rfl, by rw [HB.out]; exact HV.out, Hb1.out⟩

/-- Bend, whatever comes -/
theorem part_Bend (A : Nat → Addr) (S : List Nat) (ao : Option Addr) (len cap : Nat) (l : List (Int × Int)) (x : Int) (w : World) (R : RdP w ao len cap l) (hE : Errs A S w) (h2 : 2 ∈ S) (h3 : 3 ∈ S) :
    Calls Tryd.prog 58 #[.slice ao len cap, .int .i64 x] w (BendPost A l x w) := by
  by_cases hf : (bendF l x).1 = 0
  · have hc : (checkF l).1 = 0 := by
      apply Decidable.byContradiction; intro hc; exact hc (by rw [← bendF_check (x := x) hc]; exact hf)
    have hx : ¬ (x < 0 ∨ 1000000 < x) := fun hx => by rw [bendF_place hc hx] at hf; cases hf
    have B := check_ok hc
    rcases R.split with ⟨h0, hl⟩ | ⟨h0, b, off, rfl, hb, _⟩
    · have := B.two; rw [hl] at this; simp at this
    · exact bend_ok A S b off len cap l x w R hE h2 h3 hc (by omega) (by omega)
  · exact bend_bad A S ao len cap l x w R hE h2 h3 hf
end Go.Proofs.YtajnfkmkombajabDoor
