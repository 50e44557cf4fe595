/-
  Contracts of package part: down, Bend.
  Contracts of package issue.
  A chain: the picture of stakes; the ratio; a block's reward.
  A chain at the end of a cycle: the cases that are due.
-/
import Derived.Test.YtajnfkmkombajabGreatDoorQSR20
import Derived.Test.YtajnfkmkombajabGreatDoorQSR05
import Derived.Test.YtajnfkmkombajabGreatDoorQSR07
import Derived.Deep.LoopGhost
import Derived.Deep.RegionHeld3
import Derived.Deep.DeepCutAuto
import Derived.Deep.CutBlock
import Derived.Test.YtajnfkmkombajabGreatDoorQSR13
set_option linter.unusedVariables false
set_option linter.unusedSimpArgs false
set_option linter.unusedVariables false
namespace Go.Proofs.YtajnfkmkombajabGreatDoor
open Go.RowKit

theorem tmod_form (a b : Int) (hb : 1 ≤ b) : a.tmod b = a % b - if 0 ≤ a ∨ b ∣ a then 0 else b := by
  rw [Int.tmod_eq_emod]; split <;> simp [Int.natAbs_of_nonneg (show 0 ≤ b by omega)]

/-- division down, out of Go's own -/
theorem down_neg {a b : Int} (hb : 1 ≤ b) (hz : a.tmod b < 0) : a.tdiv b - 1 = a / b := by
  have hm := tmod_form a b hb
  have hnn := Int.emod_nonneg a (show b ≠ 0 by omega)
  rw [Int.tdiv_eq_ediv]
  split
  · rename_i hc; rw [if_pos hc] at hm; omega
  · rw [Int.sign_eq_one_of_pos (by omega)]; omega
theorem down_pos {a b : Int} (hb : 1 ≤ b) (hz : ¬ a.tmod b < 0) : a.tdiv b = a / b := by
  have hm := tmod_form a b hb
  have hlt := Int.emod_lt_of_pos a (show 0 < b by omega)
  rw [Int.tdiv_eq_ediv]
  split
  · omega
  · rename_i hc; rw [if_neg hc] at hm; omega

theorem part_down (a b : Int) (w : World) (hb : 1 ≤ b) (h1 : -1000000000000 ≤ a) (h2 : a ≤ 1000000000000) :
    Calls Tryz.prog 179 #[.int .i64 a, .int .i64 b] w fun e w' => e = .returned (.int .i64 (a / b)) ∧ w = w' := by
  have hbz : (b = 0) = False := by simp; omega
  have hx : (a.tdiv b).natAbs ≤ a.natAbs := by rw [Int.natAbs_tdiv]; exact Nat.div_le_self _ _
  have e0 : IntKind.i64.wrap (a.tdiv b) = a.tdiv b := IntWalk.i64_in _ ⟨by omega, by omega⟩
  have e1 : wrap64 (a.tdiv b) = a.tdiv b := IntWalk.wrap64_in _ ⟨by omega, by omega⟩
  have e2 : IntKind.i64.wrap (a.tdiv b - 1) = a.tdiv b - 1 := IntWalk.i64_in _ ⟨by omega, by omega⟩
  clear hx
  by_cases hz : a.tmod b < 0
  · have E2 := Lib.hid (down_neg hb hz)
    go_enter Tryz.func179, Tryz.ntmps179
    go_wp2
    go_ret
    exact ⟨by rw [← E2.out]; rfl, rfl⟩
  · have E2 := Lib.hid (down_pos hb hz)
    have hd : decide (a.tmod b < 0) = false := by simp only [decide_eq_false_iff_not]; exact hz
    clear hz
    go_enter Tryz.func179, Tryz.ntmps179
    go_wp2
    go_ret
    exact ⟨by rw [← E2.out]; rfl, rfl⟩
def BendPost (A : Nat → Addr) (l : List (Int × Int)) (x : Int) (w : World) (e : Ending) (w' : World) : Prop :=
  ∃ v, e = .returned (.tuple #[.int .i64 (if (bendF l x).1 = 0 then bendV l x else 0), v]) ∧ ErrIs A w w' v (bendF l x) ∧ Below w.heap.size w w'

theorem bend_close {A : Nat → Addr} {l : List (Int × Int)} {x n : Int} {w W : World} (hf : (checkF l).1 = 0) (h0 : 0 ≤ x) (h1 : x ≤ 1000000) (hn : bendV l x = n) (hb : Below w.heap.size w W) : BendPost A l x w (.returned (.tuple #[.int .i64 n, .nilIface])) W := by
  have e : bendF l x = (0, -1) := by unfold bendF; rw [if_neg (by simp [hf]), if_neg (by omega)]
  exact ⟨_, by rw [e, hn]; rfl, .inl ⟨by rw [e], by rw [e]; rfl⟩, hb⟩

set_option maxHeartbeats 1000000 in
theorem bend_ok (A : Nat → Addr) (S : List Nat) (b off len cap : Nat) (l : List (Int × Int)) (x : Int) (w : World) (R : RdP w (some ⟨b, off, none⟩) len cap l) (hE : Errs A S w) (h2 : 2 ∈ S) (h3 : 3 ∈ S)
    (hf : (checkF l).1 = 0) (h0 : 0 ≤ x) (h1 : x ≤ 1000000) :
    Calls Tryz.prog 161 #[.slice (some ⟨b, off, none⟩) len cap, .int .i64 x] w (BendPost A l x w) := by
  have B := check_ok hf
  have hlen : 2 ≤ len := by rw [← R.size]; exact B.two
  have hlen8 : len ≤ 8 := by rw [← R.size]; exact B.eight
  have hlc := R.lc
  have HC := part_Check A S _ _ _ _ _ R hE h2 h3
  rw [checkF_zero hf] at HC
  have HC2 : Hid (Calls Tryz.prog 178 #[.slice (some ⟨b, off, none⟩) len cap] w fun e w' => e = .returned .nilIface ∧ Below w.heap.size w w') := HC.mono fun e w' ⟨v, he, hi, hb⟩ => by
    rcases hi with ⟨_, hv⟩ | ⟨hn, _⟩
    · exact ⟨by rw [he, hv]; rfl, hb⟩
    · simp at hn
  clear HC
  obtain ⟨_, b', off', ha, hb, hcell⟩ := (R.split).resolve_left (by omega)
  cases ha
  have Hc := Lib.hid hcell; clear hcell
  have HB := Lib.hid B; clear B
  have HF := Lib.hid hf; clear hf
  have HR := Lib.hid R; clear R
  obtain ⟨z1, z2⟩ := Hc.out 0 (by omega)
  simp only [Nat.zero_mul, Nat.add_zero] at z1 z2
  have hln : (0 : Int) < (len : Int) := by omega
  have i1 : (0 : Int) ≤ (len : Int) - 1 := by omega
  have i2 : (len : Int) - 1 ≤ (cap : Int) := by omega
  have i3 : (len : Int) - 1 < (len : Int) := by omega
  have e1 : ((len : Int) - 1).toNat = len - 1 := by omega
  obtain ⟨p0, hp0⟩ : ∃ p0, p0 = l.getD 0 (0, 0) := ⟨_, rfl⟩
  rw [← hp0] at z1 z2
  have Hp0 := Lib.hid hp0; clear hp0
  by_cases hx0 : x < p0.1
  · have HV : Hid (bendV l x = p0.2) := (by unfold bendV; rw [← Hp0.out, if_pos hx0] : bendV l x = p0.2)
    go_enter Tryz.func161, Tryz.ntmps161
    go_wp2_with (go_at_call 178; refine HC2.out.mono ?_; rintro e w1 ⟨rfl, hb1⟩; rw [← hb1.cell (p := ⟨b, off, none⟩) hb] at z1; rw [← hb1.cell (p := ⟨b, off + 1, none⟩) hb] at z2)
    go_ret2
    exact bend_close HF.out h0 h1 HV.out hb1
  · have HV : Hid (bendV l x = bendGo (l.drop 0) x) := (by unfold bendV; rw [← Hp0.out, if_neg hx0]; rfl : bendV l x = bendGo (l.drop 0) x)
    go_enter Tryz.func161, Tryz.ntmps161
    go_wp2_with (go_at_call 178; refine HC2.out.mono ?_; rintro e w1 ⟨rfl, hb1⟩; rw [← hb1.cell (p := ⟨b, off, none⟩) hb] at z1; rw [← hb1.cell (p := ⟨b, off + 1, none⟩) hb] at z2)
    have Hb1 := Lib.hid hb1
    go_loopw [38] (fun i wr => ∃ k : Nat, k + 1 ≤ len ∧ i = .int .i64 k ∧ Below w.heap.size w wr ∧ bendV l x = bendGo (l.drop k) x) (fun i _ => len - (intOf i).toNat)
    case atStart => exact ⟨0, by omega, rfl, Hb1.out, HV.out⟩
    case round =>
      obtain ⟨k, hk, rfl, hbel, hv⟩ := hrel
      have Hv := Lib.hid hv; clear hv
      have Hbel := Lib.hid hbel; clear hbel
      have hbs : b < wr.heap.size := Nat.lt_of_lt_of_le hb Hbel.out.size
      have carry : ∀ o, wr.cell? ⟨b, o, none⟩ = w.cell? ⟨b, o, none⟩ := fun o => Hbel.out.cell (p := ⟨b, o, none⟩) hb
      have Hcarry := Lib.hid carry; clear carry
      by_cases hlt : k + 1 < len
      · obtain ⟨c1, c2⟩ := Hc.out k (by omega)
        obtain ⟨d1, d2⟩ := Hc.out (k + 1) hlt
        rw [← Hcarry.out] at c1 c2 d1 d2
        have HX := Lib.hid (bendGo_here (l := l) (k := k) (x := x) (by rw [HR.out.size]; exact hlt))
        have HY := Lib.hid (bendGo_step (l := l) (k := k) (x := x) (by rw [HR.out.size]; exact hlt))
        have gp := HB.out.good k (by rw [HR.out.size]; omega)
        have gq := HB.out.good (k + 1) (by rw [HR.out.size]; omega)
        have hr := HB.out.rise k (by rw [HR.out.size]; omega)
        obtain ⟨p, hp⟩ : ∃ p, p = l.getD k (0, 0) := ⟨_, rfl⟩
        obtain ⟨q, hq⟩ : ∃ q, q = l.getD (k + 1) (0, 0) := ⟨_, rfl⟩
        rw [← hp] at c1 c2 HX gp hr
        rw [← hq] at d1 d2 HX HY gq hr
        have hm := bend_mul gp gq h0 h1
        obtain ⟨px, py⟩ := p
        obtain ⟨qx, qy⟩ := q
        simp only [ptBad, not_or, Int.not_lt] at gp gq
        simp only at c1 c2 d1 d2 hr hm
        have Hp := Lib.hid hp; have Hq := Lib.hid hq
        clear hp hq
        obtain ⟨gp1, gp2, gp3, gp4⟩ := gp
        obtain ⟨gq1, gq2, gq3, gq4⟩ := gq
        obtain ⟨hm1, hm2⟩ := hm
        have j1 : (k : Int) < (len : Int) - 1 := by omega
        have j2 : k < len - 1 := by omega
        have j3 : (k : Int) + 1 < (len : Int) := by omega
        have hmw : IntKind.i64.wrap ((qy - py) * (x - px)) = (qy - py) * (x - px) := IntWalk.i64_in _ ⟨by omega, by omega⟩
        by_cases hx : x < qx
        · have HZ := Lib.hid (HX.out hx)
          have hdw := part_down ((qy - py) * (x - px)) (qx - px)
          have Hdw := Lib.hid hdw; clear hdw
          have hq1 : 1 ≤ qx - px := by omega
          have hD1 : (-1000000000000 : Int) ≤ ((qy - py) * (x - px)) / (qx - px) ∧ ((qy - py) * (x - px)) / (qx - px) ≤ 1000000000000 := by
            have := Int.natAbs_ediv_le_natAbs ((qy - py) * (x - px)) (qx - px)
            omega
          obtain ⟨hD2, hD3⟩ := hD1
          obtain ⟨M, hM⟩ : ∃ M, M = (qy - py) * (x - px) := ⟨_, rfl⟩
          rw [← hM] at hmw hm1 hm2 hD2 hD3 Hdw HZ
          have hMe : (qy - py) * (x - px) = M := hM.symm
          clear hM
          go_wp2_with fail
          go_quiet ((go_at_call 179; exact Calls.quiet_of_same ((Hdw.out _ hq1 hm1 hm2).mono fun _ _ ⟨a, b⟩ => ⟨a, b.symm⟩)))
          go_wp2
          go_ret2
          exact bend_close HF.out h0 h1 (n := py + M / (qx - px)) (by rw [Hv.out, HZ.out]) (((Hbel.out.alloc Hbel.out.size _).alloc (by have := Hbel.out.size; simp; omega) _).drewN _)
        · have HZ := Lib.hid (HY.out (by simpa using hx))
          go_wp2
          go_roundw
          case rel => exact ⟨k + 1, by omega, by go_num, (Hbel.out.alloc Hbel.out.size _).alloc (by have := Hbel.out.size; simp; omega) _, by rw [Hv.out, HZ.out]⟩
          case measure => simp [intOf]; omega
      · have hke : k + 1 = len := by omega
        have Hke := Lib.hid hke; clear hke
        obtain ⟨c1, c2⟩ := Hc.out k (by omega)
        rw [← Hcarry.out] at c1 c2
        have ek : len - 1 = k := by have := Hke.out; omega
        have HL := Lib.hid (bendGo_last (l := l) (k := k) (x := x) (by rw [HR.out.size]; exact Hke.out))
        have j1 : ¬ (k : Int) < (len : Int) - 1 := by have := Hke.out; omega
        go_wp2
        go_ret2
        exact bend_close HF.out h0 h1 (n := (l.getD k (0, 0)).2) (by rw [Hv.out, HL.out]) Hbel.out

end Go.Proofs.YtajnfkmkombajabGreatDoor
namespace Go.Proofs.YtajnfkmkombajabGreatDoor
open Go.RowKit

theorem issue_bend (w : World) : Calls Tryz.prog 162 #[] w fun e w' => e = .returned (.slice (some ⟨w.heap.size, 0, none⟩) 4 4) ∧ RdP w' (some ⟨w.heap.size, 0, none⟩) 4 4 rateL ∧ Below w.heap.size w w' := by
  go_enter Tryz.func162, Tryz.ntmps162
  go_wp2
  go_ret
  have hc : ∀ t o v, #[Value.int .i64 0, Value.int .i64 40000, Value.int .i64 250000, Value.int .i64 20000, Value.int .i64 500000, Value.int .i64 10000, Value.int .i64 1000000, Value.int .i64 5000][o]? = some v → (w.alloc (.cells #[Value.int .i64 0, Value.int .i64 40000, Value.int .i64 250000, Value.int .i64 20000, Value.int .i64 500000, Value.int .i64 10000, Value.int .i64 1000000, Value.int .i64 5000] t)).cell? ⟨w.heap.size, o, none⟩ = some v := fun t o v h => by
    rw [World.cell?_alloc_new]; exact h
  refine ⟨rfl, ⟨rfl, Nat.le_refl _, by decide, fun h => (by cases h), fun p hp => ?_, fun i hi => ⟨_, _, rfl, ?_, ?_⟩⟩, (Below.refl _ w).alloc (Nat.le_refl _) _⟩
  · simp only [rateL, List.mem_cons, List.not_mem_nil, or_false] at hp
    rcases hp with rfl | rfl | rfl | rfl <;> decide
  · have : i = 0 ∨ i = 1 ∨ i = 2 ∨ i = 3 := by omega
    rcases this with rfl | rfl | rfl | rfl <;> exact hc _ _ _ rfl
  · have : i = 0 ∨ i = 1 ∨ i = 2 ∨ i = 3 := by omega
    rcases this with rfl | rfl | rfl | rfl <;> exact hc _ _ _ rfl

theorem issue_look (A : Nat → Addr) (S : List Nat) (r b : Int) (w : World) (hE : Errs A S w) (h2 : 2 ∈ S) :
    Calls Tryz.prog 160 #[.int .i64 r, .int .i64 b] w fun e w' => e = .returned (ev A (rateC r b)) ∧ w = w' := by
  have g2 : w.cell? ⟨0, 0, none⟩ = some (.iface 235 (.pointer (some (A 2)))) := hE.cell 2 h2
  clear hE
  by_cases h : rateOk r b
  · have HC : Hid (rateC r b = 0) := (by unfold rateC; rw [if_pos h] : rateC r b = 0)
    obtain ⟨h0, h1, h3, h4⟩ := h
    go_enter Tryz.func160, Tryz.ntmps160
    go_wp2
    go_ret
    exact ⟨by rw [HC.out]; rfl, rfl⟩
  · have HC : Hid (rateC r b = 2) := (by unfold rateC; rw [if_neg h] : rateC r b = 2)
    by_cases c0 : r < 0
    · clear h
      go_enter Tryz.func160, Tryz.ntmps160
      go_wp2
      go_ret
      exact ⟨by rw [HC.out]; rfl, rfl⟩
    · by_cases c1 : 1000000 < r
      · clear h
        go_enter Tryz.func160, Tryz.ntmps160
        go_wp2
        go_ret
        exact ⟨by rw [HC.out]; rfl, rfl⟩
      · by_cases c2 : b < 0
        · clear h
          go_enter Tryz.func160, Tryz.ntmps160
          go_wp2
          go_ret
          exact ⟨by rw [HC.out]; rfl, rfl⟩
        · have c3 : 5000 < b := Int.not_le.1 fun hb => h ⟨by omega, by omega, by omega, hb⟩
          clear h
          go_enter Tryz.func160, Tryz.ntmps160
          go_wp2
          go_ret
          exact ⟨by rw [HC.out]; rfl, rfl⟩

theorem issue_Ratio (A : Nat → Addr) (S : List Nat) (s p : Int) (w : World) (hE : Errs A S w) (h2 : 2 ∈ S) :
    Calls Tryz.prog 163 #[.int .i64 s, .int .i64 p] w fun e w' => e = .returned (.tuple #[.int .i64 (ratioN s p), ev A (ratioC s p)]) ∧ Dr w w' := by
  have g2 : w.cell? ⟨0, 0, none⟩ = some (.iface 235 (.pointer (some (A 2)))) := hE.cell 2 h2
  have HE := Lib.hid hE; clear hE
  by_cases h : ratioOk s p
  · have HC : Hid (ratioC s p = 0) := (by unfold ratioC; rw [if_pos h] : ratioC s p = 0)
    have HN : Hid (ratioN s p = s * 1000000 / p) := (by unfold ratioN; rw [if_pos h] : ratioN s p = s * 1000000 / p)
    obtain ⟨y1, y2, _⟩ := over_yes (ratio_over h)
    have e1 : ev A (overC s 1000000 p) = .nilIface := by rw [y1]; rfl
    obtain ⟨h0, h1, h3, h4⟩ := h
    have a1 : amtB s = true := amtB_iff.2 (by omega)
    have a2 : amtB p = true := amtB_iff.2 (by omega)
    have hpe : (p == 0) = false := by simp; omega
    clear y1
    go_enter Tryz.func163, Tryz.ntmps163
    go_wp2_with (first
      | (go_at_call 77; refine (part_Amount _ _).mono ?_; rintro e w' ⟨rfl, rfl⟩)
      | (go_at_call 99; refine (part_Down A S _ _ _ _ HE.out h2).mono ?_; rintro e w' ⟨rfl, k, hk⟩; subst hk))
    go_ret2
    exact ⟨by rw [HC.out, HN.out]; rfl, k, rfl⟩
  · have HC : Hid (ratioC s p = 2) := (by unfold ratioC; rw [if_neg h] : ratioC s p = 2)
    have HN : Hid (ratioN s p = 0) := (by unfold ratioN; rw [if_neg h] : ratioN s p = 0)
    cases a1 : amtB s with
    | false =>
      clear h
      go_enter Tryz.func163, Tryz.ntmps163
      go_wp2_with (go_at_call 77; refine (part_Amount _ _).mono ?_; rintro e w' ⟨rfl, rfl⟩)
      go_quiet (fail)
      go_wp2
      go_ret2
      exact ⟨by rw [HC.out, HN.out]; rfl, _, rfl⟩
    | true =>
    cases a2 : amtB p with
    | false =>
      clear h
      go_enter Tryz.func163, Tryz.ntmps163
      go_wp2_with (go_at_call 77; refine (part_Amount _ _).mono ?_; rintro e w' ⟨rfl, rfl⟩)
      go_quiet (fail)
      go_wp2
      go_ret2
      exact ⟨by rw [HC.out, HN.out]; rfl, _, rfl⟩
    | true =>
    obtain ⟨s0, s1⟩ := amtB_iff.1 a1
    obtain ⟨p0, p1⟩ := amtB_iff.1 a2
    by_cases hp : p = 0
    · clear h
      subst hp
      go_enter Tryz.func163, Tryz.ntmps163
      go_wp2_with (go_at_call 77; refine (part_Amount _ _).mono ?_; rintro e w' ⟨rfl, rfl⟩)
      go_quiet (fail)
      go_wp2
      go_ret2
      exact ⟨by rw [HC.out, HN.out]; rfl, _, rfl⟩
    · have c3 : p < s := Int.not_le.1 fun hb => h ⟨by omega, by omega, by omega, by omega⟩
      have hpe : (p == 0) = false := by simp [hp]
      clear h hp
      go_enter Tryz.func163, Tryz.ntmps163
      go_wp2_with (go_at_call 77; refine (part_Amount _ _).mono ?_; rintro e w' ⟨rfl, rfl⟩)
      go_quiet (fail)
      go_wp2
      go_ret2
      exact ⟨by rw [HC.out, HN.out]; rfl, _, rfl⟩

theorem issue_Bonus (A : Nat → Addr) (S : List Nat) (b r : Int) (w : World) (hE : Errs A S w) (h2 : 2 ∈ S) :
    Calls Tryz.prog 143 #[.int .i64 b, .int .i64 r] w fun e w' => e = .returned (.tuple #[.int .i64 (bonusN b r), ev A (rateC r b)]) ∧ Dr w w' := by
  have HE := Lib.hid hE; clear hE
  by_cases h : rateOk r b
  · have HC : Hid (rateC r b = 0) := (by unfold rateC; rw [if_pos h] : rateC r b = 0)
    have HN : Hid (bonusN b r = if r < 480000 then min 5000 (b + 100) else if 520000 < r then max 0 (b - 100) else b) := (by unfold bonusN; rw [if_pos h] : bonusN b r = if r < 480000 then min 5000 (b + 100) else if 520000 < r then max 0 (b - 100) else b)
    have e1 : ev A (rateC r b) = .nilIface := by rw [HC.out]; rfl
    obtain ⟨h0, h1, h3, h4⟩ := h
    by_cases c1 : r < 480000
    · go_enter Tryz.func143, Tryz.ntmps143
      go_wp2_with (go_at_call 160; refine (issue_look A S _ _ _ HE.out h2).mono ?_; rintro e w' ⟨rfl, rfl⟩)
      go_ret2
      exact ⟨by rw [HC.out, HN.out]; simp [ev, *], Dr.refl _⟩
    · by_cases c2 : 520000 < r
      · go_enter Tryz.func143, Tryz.ntmps143
        go_wp2_with (go_at_call 160; refine (issue_look A S _ _ _ HE.out h2).mono ?_; rintro e w' ⟨rfl, rfl⟩)
        go_ret2
        exact ⟨by rw [HC.out, HN.out, if_neg (by omega), if_pos (by omega)]; rfl, Dr.refl _⟩
      · go_enter Tryz.func143, Tryz.ntmps143
        go_wp2_with (go_at_call 160; refine (issue_look A S _ _ _ HE.out h2).mono ?_; rintro e w' ⟨rfl, rfl⟩)
        go_ret2
        exact ⟨by rw [HC.out, HN.out, if_neg (by omega), if_neg (by omega)]; rfl, Dr.refl _⟩
  · have HC : Hid (rateC r b = 2) := (by unfold rateC; rw [if_neg h] : rateC r b = 2)
    have HN : Hid (bonusN b r = 0) := (by unfold bonusN; rw [if_neg h] : bonusN b r = 0)
    have e1 : ev A (rateC r b) = .iface 235 (.pointer (some (A 2))) := by rw [HC.out]; rfl
    clear h
    go_enter Tryz.func143, Tryz.ntmps143
    go_wp2_with (go_at_call 160; refine (issue_look A S _ _ _ HE.out h2).mono ?_; rintro e w' ⟨rfl, rfl⟩)
    go_ret2
    exact ⟨by rw [HC.out, HN.out]; rfl, Dr.refl _⟩

theorem issue_Rate (A : Nat → Addr) (S : List Nat) (r b : Int) (w : World) (hE : Errs A S w) (h2 : 2 ∈ S) (h3 : 3 ∈ S) :
    Calls Tryz.prog 134 #[.int .i64 r, .int .i64 b] w fun e w' => e = .returned (.tuple #[.int .i64 (rateN r b), ev A (rateC r b)]) ∧ Below w.heap.size w w' := by
  have HE := Lib.hid hE; clear hE
  by_cases h : rateOk r b
  · have HC : Hid (rateC r b = 0) := (by unfold rateC; rw [if_pos h] : rateC r b = 0)
    have HN : Hid (rateN r b = bendV rateL r + b) := (by unfold rateN; rw [if_pos h] : rateN r b = bendV rateL r + b)
    have e1 : ev A (rateC r b) = .nilIface := by rw [HC.out]; rfl
    obtain ⟨h0, h1, h4, h5⟩ := h
    obtain ⟨n0, n1⟩ := rateL_bounds h0 h1
    have HB : ∀ w' : World, Below w.heap.size w w' → RdP w' (some ⟨w.heap.size, 0, none⟩) 4 4 rateL → Calls Tryz.prog 161 #[.slice (some ⟨w.heap.size, 0, none⟩) 4 4, .int .i64 r] w' fun e w'' => e = .returned (.tuple #[.int .i64 (bendV rateL r), .nilIface]) ∧ Below w.heap.size w w'' := fun w' hb R =>
      (bend_ok A S _ _ _ _ _ r w' R (HE.out.below hb) h2 h3 rateL_right h0 h1).mono fun e w'' ⟨v, he, hv, hb'⟩ => by
        have e0 : bendF rateL r = (0, -1) := by unfold bendF; rw [if_neg (by simp [rateL_right]), if_neg (by omega)]
        rcases hv with ⟨_, hv⟩ | ⟨hv, _⟩
        · rw [e0] at hv he
          exact ⟨by rw [he, hv]; rfl, btrans hb hb'⟩
        · rw [e0] at hv; simp at hv
    have HB' := Lib.hid HB; clear HB
    generalize hn : bendV rateL r = n at *
    clear hn
    go_enter Tryz.func134, Tryz.ntmps134
    go_wp2_with (first
      | (go_at_call 160; refine (issue_look A S _ _ _ HE.out h2).mono ?_; rintro e w' ⟨rfl, rfl⟩)
      | (go_at_call 162; refine (issue_bend _).mono ?_; rintro e w' ⟨rfl, hR, hb⟩)
      | (go_at_call 161; refine (HB'.out _ hb hR).mono ?_; rintro e w'' ⟨rfl, hb2⟩))
    go_ret2
    exact ⟨by rw [HC.out, HN.out]; rfl, hb2⟩
  · have HC : Hid (rateC r b = 2) := (by unfold rateC; rw [if_neg h] : rateC r b = 2)
    have HN : Hid (rateN r b = 0) := (by unfold rateN; rw [if_neg h] : rateN r b = 0)
    have e1 : ev A (rateC r b) = .iface 235 (.pointer (some (A 2))) := by rw [HC.out]; rfl
    clear h
    go_enter Tryz.func134, Tryz.ntmps134
    go_wp2_with (go_at_call 160; refine (issue_look A S _ _ _ HE.out h2).mono ?_; rintro e w' ⟨rfl, rfl⟩)
    go_ret2
    exact ⟨by rw [HC.out, HN.out]; rfl, Below.refl _ _⟩

theorem issue_Reward (A : Nat → Addr) (S : List Nat) (s r : Int) (w : World) (hE : Errs A S w) (h2 : 2 ∈ S) :
    Calls Tryz.prog 136 #[.int .i64 s, .int .i64 r] w fun e w' => e = .returned (.tuple #[.int .i64 (rewardN s r), ev A (rewardC s r)]) ∧ Dr w w' := by
  have g2 : w.cell? ⟨0, 0, none⟩ = some (.iface 235 (.pointer (some (A 2)))) := hE.cell 2 h2
  have HE := Lib.hid hE; clear hE
  by_cases h : rewardOk s r
  · have HC : Hid (rewardC s r = 0) := (by unfold rewardC; rw [if_pos h] : rewardC s r = 0)
    have HN : Hid (rewardN s r = s * r / 1000000 / 4) := (by unfold rewardN; rw [if_pos h] : rewardN s r = s * r / 1000000 / 4)
    obtain ⟨y1, y2, _⟩ := over_yes (reward_over h)
    have e1 : ev A (overC s r 1000000) = .nilIface := by rw [y1]; rfl
    have q0 : 0 ≤ s * r / 1000000 := Int.ediv_nonneg (Int.mul_nonneg h.1.1 h.2.1) (by omega)
    have q1 : s * r / 1000000 ≤ 1125899906842624 := (reward_over h).2.2.2
    obtain ⟨⟨h0, h1⟩, h3, h4⟩ := h
    have a1 : amtB s = true := amtB_iff.2 (by omega)
    clear y1
    generalize s * r / 1000000 = q at *
    have hq : q.tdiv 4 = q / 4 := Int.tdiv_eq_ediv_of_nonneg q0
    go_enter Tryz.func136, Tryz.ntmps136
    go_wp2_with (first
      | (go_at_call 77; refine (part_Amount _ _).mono ?_; rintro e w' ⟨rfl, rfl⟩)
      | (go_at_call 99; refine (part_Down A S _ _ _ _ HE.out h2).mono ?_; rintro e w' ⟨rfl, k, hk⟩; subst hk))
    go_ret2
    exact ⟨by rw [HC.out, HN.out]; rfl, k, rfl⟩
  · have HC : Hid (rewardC s r = 2) := (by unfold rewardC; rw [if_neg h] : rewardC s r = 2)
    have HN : Hid (rewardN s r = 0) := (by unfold rewardN; rw [if_neg h] : rewardN s r = 0)
    cases a1 : amtB s with
    | false =>
      clear h
      go_enter Tryz.func136, Tryz.ntmps136
      go_wp2_with (go_at_call 77; refine (part_Amount _ _).mono ?_; rintro e w' ⟨rfl, rfl⟩)
      go_quiet (fail)
      go_wp2
      go_ret2
      exact ⟨by rw [HC.out, HN.out]; rfl, _, rfl⟩
    | true =>
    obtain ⟨s0, s1⟩ := amtB_iff.1 a1
    by_cases hp : r < 0
    · clear h
      go_enter Tryz.func136, Tryz.ntmps136
      go_wp2_with (go_at_call 77; refine (part_Amount _ _).mono ?_; rintro e w' ⟨rfl, rfl⟩)
      go_quiet (fail)
      go_wp2
      go_ret2
      exact ⟨by rw [HC.out, HN.out]; rfl, _, rfl⟩
    · have c3 : 1000000 < r := Int.not_le.1 fun hb => h ⟨by omega, by omega, by omega⟩
      clear h
      go_enter Tryz.func136, Tryz.ntmps136
      go_wp2_with (go_at_call 77; refine (part_Amount _ _).mono ?_; rintro e w' ⟨rfl, rfl⟩)
      go_quiet (fail)
      go_wp2
      go_ret2
      exact ⟨by rw [HC.out, HN.out]; rfl, _, rfl⟩
end Go.Proofs.YtajnfkmkombajabGreatDoor
namespace Go.Proofs.YtajnfkmkombajabGreatDoor
open Go.RowKit Go.Maps

/-- a picture under way: the weights of the first k bakers -/
def picK (s : SS) : Nat → List Int
  | 0 => [0, 0, 0]
  | 1 => [pic1 (s.staked 0), 0, 0]
  | 2 => [pic1 (s.staked 0), pic1 (s.staked 1), 0]
  | _ => [pic1 (s.staked 0), pic1 (s.staked 1), pic1 (s.staked 2)]
theorem picK_step (s : SS) (k : Nat) (hk : k < 3) : ((picK s k).map (Value.int .i64)).set k (.int .i64 (pic1 (s.staked k))) = (picK s (k + 1)).map (Value.int .i64) := by
  match k, hk with
  | 0, _ => rfl
  | 1, _ => rfl
  | 2, _ => rfl
theorem picK_len (s : SS) (k : Nat) : (picK s k).length = 3 := by unfold picK; split <;> rfl
theorem picK_zero (s : SS) (k : Nat) (hk : k < 3) (h : pic1 (s.staked k) = 0) : picK s (k + 1) = picK s k := by
  match k, hk with
  | 0, _ => show [pic1 (s.staked 0), 0, 0] = _; rw [show pic1 (s.staked 0) = 0 from h]; rfl
  | 1, _ => show [_, pic1 (s.staked 1), 0] = _; rw [show pic1 (s.staked 1) = 0 from h]; rfl
  | 2, _ => show [_, _, pic1 (s.staked 2)] = _; rw [show pic1 (s.staked 2) = 0 from h]; rfl

set_option maxRecDepth 8000 in
set_option maxHeartbeats 1000000 in
theorem right_Picture (sb n : Nat) (F : Nat → Prop) (s : SS) (w : World) (h : StakesAt sb F n s w) :
    Calls Tryz.prog 20 #[.pointer (some ⟨sb, 0, none⟩)] w fun e w' => e = .returned (.slice (some ⟨w.heap.size, 0, none⟩) 3 3) ∧ Below w.heap.size w w' ∧ RowAt w.heap.size 3 (s.picture.map (Value.int .i64)) w' := by
  have HS := Lib.hid (fun k wx (hb : Below w.heap.size w wx) => st_Staked (w := wx) k (h.below hb)); clear h
  have hmk : (Instr.makeSlice 58 (.int .i64 3) (.int .i64 3)).run Tryz.prog w = .ok (.slice (some ⟨w.heap.size, 0, none⟩) 3 3) (w.alloc (.cells #[.int .i64 0, .int .i64 0, .int .i64 0] 3)) := make_ints 3 (by decide) w
  have B0 : Below w.heap.size w (w.alloc (.cells #[.int .i64 0, .int .i64 0, .int .i64 0] 3)) := (Below.refl _ _).alloc (Nat.le_refl _) _
  have R0 := RowAt.new w 3 [.int .i64 0, .int .i64 0, .int .i64 0]
  go_enter Tryz.func20, Tryz.ntmps20
  go_wp2_with fail
  go_loopg [12] 3 (fun g c wr => ∃ k : Nat, g + k = 3 ∧ c = .int .i64 k ∧ Below w.heap.size w wr ∧ RowAt w.heap.size 3 ((picK s k).map (Value.int .i64)) wr)
  case atStart => exact ⟨0, rfl, rfl, B0, R0⟩
  case round =>
    obtain ⟨k, hg, rfl, hb, hr⟩ := hrel
    clear B0 R0 hmk
    have HB := Lib.hid hb; have HR := Lib.hid hr; have HG := Lib.hid hg; clear hb hr hg
    have hlen : ((picK s k).map (Value.int .i64)).length = 3 := by rw [List.length_map, picK_len]
    by_cases hk : k < 3
    · have cc := HR.out.cell k
      have ff := HR.out.frozen k
      obtain ⟨v0, hv0⟩ : ∃ v0, ((picK s k).map (Value.int .i64))[k]? = some v0 := ⟨_, List.getElem?_eq_getElem (by rw [hlen]; exact hk)⟩
      rw [hv0] at cc
      have HSt := Lib.hid (picK_step s k hk)
      have HZ := Lib.hid (picK_zero s k hk)
      clear hlen hv0
      go_wp2_with fail
      refine (HS.out (k : Int) _ HB.out).mono ?_
      rintro e w1 ⟨rfl, rfl⟩
      generalize s.staked k = v at *
      by_cases h1 : v < 100
      · have hp : pic1 v = 0 := if_pos h1
        go_wp2_with fail
        have hg := HG.out
        go_roundg (3 - (k + 1))
        case measure => omega
        case rel => exact ⟨k + 1, by omega, by go_num, HB.out, by rw [HZ.out hp]; exact HR.out⟩
      · have hp : pic1 v = min v 1073741824 := by unfold pic1; rw [if_neg h1]; split <;> omega
        go_wp2_with fail
        have hg := HG.out
        have hst := HR.out.set k (.int .i64 (pic1 v))
        rw [HSt.out, hp] at hst
        go_roundg (3 - (k + 1))
        case measure => omega
        case rel => exact ⟨k + 1, by omega, by go_num, HB.out.setCell (p := ⟨w.heap.size, k, none⟩) (Nat.le_refl _) _, hst⟩
    · have hk3 : k = 3 := by have := HG.out; omega
      subst hk3
      go_wp2_with fail
      go_ret
      exact ⟨rfl, HB.out, HR.out⟩

section
variable (A : Nat → Addr) (S : List Nat) (W : World) (F : Nat → Prop) (cb : Nat) (K : ChL) (n sd : Nat) (x : CS) (w : World)
theorem CS.staked_le {c : CS} (h : c.Inv) : 0 ≤ c.s.staked 0 ∧ 0 ≤ c.s.staked 1 ∧ 0 ≤ c.s.staked 2 ∧ c.s.staked 0 + c.s.staked 1 + c.s.staked 2 ≤ 1125899906842624 := by
  obtain ⟨h0, h1, h2, h3⟩ := SS.staked_bd h.s
  have hb := h.bal; have hm := h.p.most; have s0 := h.p.sum_bd
  omega
/-- what is staked with the first k bakers -/
def sumK (s : SS) : Nat → Int
  | 0 => 0
  | 1 => s.staked 0
  | 2 => s.staked 0 + s.staked 1
  | _ => s.staked 0 + s.staked 1 + s.staked 2
theorem sumK_step (s : SS) (k : Nat) (hk : k < 3) : sumK s (k + 1) = sumK s k + s.staked k := by
  match k, hk with
  | 0, _ => show s.staked 0 = 0 + s.staked 0; omega
  | 1, _ => rfl
  | 2, _ => rfl
theorem sumK_bd {s : SS} (h0 : 0 ≤ s.staked 0) (h1 : 0 ≤ s.staked 1) (h2 : 0 ≤ s.staked 2) (h3 : s.staked 0 + s.staked 1 + s.staked 2 ≤ 1125899906842624) (k : Nat) : 0 ≤ sumK s k ∧ sumK s k ≤ 1125899906842624 := by
  unfold sumK; split <;> omega

set_option maxRecDepth 8000 in
theorem chain_ratio (h : ChGo W F cb K n sd x w) (hx : x.Inv) (hE : Errs A S W) (hFE : ∀ c ∈ S, ¬ F (gE c)) (h2 : 2 ∈ S) :
    Calls Tryz.prog 135 #[.pointer (some ⟨cb, 0, none⟩)] w fun e w' => e = .returned (.int .i64 x.ratio) ∧ Dr w w' := by
  have c0 := h.c0; have c1 := h.c1
  obtain ⟨q0, q1, q2, q3⟩ := CS.staked_le hx
  have HBD := Lib.hid (sumK_bd q0 q1 q2 q3)
  have HST := Lib.hid (fun k => st_Staked (w := w) k h.ch.st)
  have HSU := Lib.hid (purse_Supply K.pb x.p w h.ch.purse)
  have HR := Lib.hid (issue_Ratio A S (sumK x.s 3) x.p.supply w (h.errs hE hFE) h2)
  have HV := Lib.hid (show ratioN (sumK x.s 3) x.p.supply = x.ratio from rfl)
  have HSK := Lib.hid (fun k hk => sumK_step x.s k hk)
  clear h hx hE hFE q0 q1 q2 q3
  go_enter Tryz.func135, Tryz.ntmps135
  go_wp2_with fail
  go_loopg [3, 7] 3 (fun g a c wr => ∃ k : Nat, g + k = 3 ∧ c = .int .i64 k ∧ a = .int .i64 (sumK x.s k) ∧ wr = w)
  case atStart => exact ⟨0, rfl, rfl, rfl, rfl⟩
  case round =>
    obtain ⟨k, hg, rfl, rfl, rfl⟩ := hrel
    have HG := Lib.hid hg; clear hg
    by_cases hk : k < 3
    · have b1 := HBD.out k
      have b2 := HBD.out (k + 1)
      rw [HSK.out k hk] at b2
      have HSt := Lib.hid (HSK.out k hk)
      go_wp2_with fail
      refine (HST.out (k : Int)).mono ?_
      rintro e w1 ⟨rfl, rfl⟩
      generalize x.s.staked k = v at *
      generalize sumK x.s k = u at *
      go_wp2_with fail
      have hg := HG.out
      go_roundg (3 - (k + 1))
      case measure => omega
      case rel => exact ⟨k + 1, by omega, by go_num, by rw [HSt.out], rfl⟩
    · have hk3 : k = 3 := by have := HG.out; omega
      subst hk3
      go_wp2_with fail
      refine HSU.out.mono ?_
      rintro e w1 ⟨rfl, rfl⟩
      go_wp2_with fail
      refine HR.out.mono ?_
      rintro e w1 ⟨rfl, d, rfl⟩
      rw [HV.out]
      generalize ratioC (sumK x.s 3) x.p.supply = rc at *
      go_wp2_with fail
      go_ret
      exact ⟨rfl, d, rfl⟩

set_option maxRecDepth 8000 in
set_option maxHeartbeats 1000000 in
/-- the reward of a block -/
theorem chain_reward (b : Int) (h : ChGo W F cb K n sd x w) (hx : x.Inv) (hE : Errs A S W) (hFE : ∀ c ∈ S, ¬ F (gE c)) (h2 : 2 ∈ S) (h3 : 3 ∈ S) (h4 : 4 ∈ S) :
    Calls Tryz.prog 116 #[.pointer (some ⟨cb, 0, none⟩), .int .i64 b] w fun e w' => e = .returned (.int .i64 (x.reward b).1) ∧ ∃ K', ChGo W F cb K' (n + 1) sd (x.reward b).2 w' := by
  have H0 := Lib.hid h
  have HEE := Lib.hid (And.intro hE hFE)
  have HX := Lib.hid hx
  obtain ⟨i0, i1⟩ := CS.issues_bd hx
  have s0 : 0 ≤ x.p.supply := by have := hx.p.sum_bd; have := hx.p.le; omega
  have s1 := hx.p.most
  have c6 := h.c6
  have HRT := Lib.hid (chain_ratio A S W F cb K n sd x (w.drewN 1) (h.drewN 1) hx hE hFE h2)
  have HI := Lib.hid (show rewardN x.p.supply (rateN x.ratio x.bonus) = x.issues from rfl)
  have HFC := Lib.hid (fun wx (hb : Below w.heap.size w wx) => (h.below hb).c6)
  clear h hx hE hFE
  go_enter Tryz.func116, Tryz.ntmps116
  go_upto_region 1 with fail
  go_cut [5, 6] (fun s5 s6 wx => s5 = .int .i64 (rateN x.ratio x.bonus) ∧ Below w.heap.size w wx)
  case first =>
    go_region_held3 (fun wx => wx.cell? ⟨cb, 6, none⟩ = some (.int .i64 x.bonus)) (first | exact HFC.out _ H2.out | exact HFC.out _ H1.out | exact HFC.out _ ((Below.refl _ _).drewN _) | exact HFC.out _ (Below.refl _ _))
      (first
        | (go_at_call 135; refine HRT.out.mono ?_; rintro y w1 ⟨rfl, d1⟩; have H1 := Lib.hid (btrans ((Below.refl _ _).drewN 1) d1.below))
        | (go_at_call 134; refine (issue_Rate A S x.ratio x.bonus _ ((H0.out.below H1.out).errs HEE.out.1 HEE.out.2) h2 h3).mono ?_; rintro y w2 ⟨rfl, b2⟩; have H2 := Lib.hid (btrans H1.out b2)))
    all_goals go_wp2_with fail
    all_goals go_meet
    all_goals (case rel => exact ⟨rfl, H2.out⟩)
  case rest =>
    obtain ⟨rfl, hb⟩ := hcut
    have H1 := Lib.hid (H0.out.below hb); clear hb c6
    have d0 := H1.out.c0
    have d1 := H1.out.c1
    go_wp2_with fail
    refine (purse_Supply K.pb x.p _ H1.out.ch.purse).mono ?_
    rintro e w1 ⟨rfl, rfl⟩
    go_wp2_with fail
    refine (issue_Reward A S x.p.supply (rateN x.ratio x.bonus) _ (H1.out.errs HEE.out.1 HEE.out.2) h2).mono ?_
    rintro e w2 ⟨rfl, d, rfl⟩
    rw [HI.out]
    have H2 := Lib.hid (H1.out.drewN d)
    generalize hr : rateN x.ratio x.bonus = rt at *
    generalize rewardC x.p.supply rt = rc at *
    go_wp2_with fail
    refine (purse_Supply K.pb x.p _ H2.out.ch.purse).mono ?_
    rintro e w1 ⟨rfl, rfl⟩
    by_cases hm : 1125899906842624 < x.p.supply + x.issues
    · have E := Lib.hid (show x.reward b = (0, x) by unfold CS.reward; rw [if_pos hm])
      have hd : decide ((1125899906842624 : Int) < x.p.supply + x.issues) = true := by simp; omega
      clear hm
      generalize x.issues = N at *
      generalize x.p.supply = P at *
      go_wp2_with fail
      go_ret
      exact ⟨by rw [E.out]; rfl, by rw [E.out]; exact ⟨K, H2.out.mono (Nat.le_succ n)⟩⟩
    · have hd : decide ((1125899906842624 : Int) < x.p.supply + x.issues) = false := by simp; omega
      have HA := Lib.hid (stake_Add A S K.sb K.Fs n x.s b x.issues _ H2.out.ch.st (H2.out.errs HEE.out.1 HEE.out.2) h2 h4)
      have HG := Lib.hid (fun wx (hp : PurseAt K.pb x.p wx) hE => purse_Grow A S K.pb x.p x.issues wx hE h2 hp)
      by_cases ha : (x.s.addOp b x.issues).1 = 0
      · rw [show ev A (x.s.addOp b x.issues).1 = .nilIface by rw [ha]; rfl] at HA
        by_cases hg : (x.p.growOp x.issues).1 = 0
        · rw [show ev A (x.p.growOp x.issues).1 = .nilIface by rw [hg]; rfl] at HG
          have E := Lib.hid (show x.reward b = (x.issues, { x with s := (x.s.addOp b x.issues).2, p := (x.p.growOp x.issues).2 }) by unfold CS.reward; rw [if_neg hm, if_neg (by simp [ha]), if_neg (by simp [hg])])
          clear hm ha hg
          generalize x.issues = N at *
          generalize hP : x.p.supply = P at *
          have d2 := H2.out.c1
          go_wp2_with fail
          refine HA.out.mono ?_
          rintro e w3 ⟨rfl, k3⟩
          have H3 := Lib.hid (H2.out.stakes (Nat.le_succ n) k3); clear k3
          have d3 := H3.out.c0
          go_wp2_with fail
          refine (HG.out _ H3.out.ch.purse (H3.out.errs HEE.out.1 HEE.out.2)).mono ?_
          rintro e w4 ⟨rfl, k4⟩
          have H4 := Lib.hid (H3.out.purse k4); clear k4
          go_wp2_with fail
          go_ret
          exact ⟨by rw [E.out]; rfl, by rw [E.out]; exact ⟨_, H4.out⟩⟩
        · rw [ev_some A hg] at HG
          have E := Lib.hid (show x.reward b = (0, { x with s := (x.s.addOp b x.issues).2, p := (x.p.growOp x.issues).2 }) by unfold CS.reward; rw [if_neg hm, if_neg (by simp [ha]), if_pos hg])
          clear hm ha hg
          generalize x.issues = N at *
          generalize hP : x.p.supply = P at *
          have d2 := H2.out.c1
          go_wp2_with fail
          refine HA.out.mono ?_
          rintro e w3 ⟨rfl, k3⟩
          have H3 := Lib.hid (H2.out.stakes (Nat.le_succ n) k3); clear k3
          have d3 := H3.out.c0
          go_wp2_with fail
          refine (HG.out _ H3.out.ch.purse (H3.out.errs HEE.out.1 HEE.out.2)).mono ?_
          rintro e w4 ⟨rfl, k4⟩
          have H4 := Lib.hid (H3.out.purse k4); clear k4
          go_wp2_with fail
          go_ret
          exact ⟨by rw [E.out]; rfl, by rw [E.out]; exact ⟨_, H4.out⟩⟩
      · rw [ev_some A ha] at HA
        have E := Lib.hid (show x.reward b = (0, { x with s := (x.s.addOp b x.issues).2 }) by unfold CS.reward; rw [if_neg hm, if_pos ha])
        clear hm ha HG
        generalize x.issues = N at *
        generalize hP : x.p.supply = P at *
        have d2 := H2.out.c1
        go_wp2_with fail
        refine HA.out.mono ?_
        rintro e w3 ⟨rfl, k3⟩
        have H3 := Lib.hid (H2.out.stakes (Nat.le_succ n) k3); clear k3
        go_wp2_with fail
        go_ret
        exact ⟨by rw [E.out]; rfl, by rw [E.out]; exact ⟨_, H3.out⟩⟩
end
end Go.Proofs.YtajnfkmkombajabGreatDoor
namespace Go.Proofs.YtajnfkmkombajabGreatDoor
open Go.RowKit Go.Maps

section
variable {W w w' : World} {F : Nat → Prop} {cb n sd : Nat} {K : ChL} {x y : CS} {v : Value} {D : List (Int × EV)}
/-- a chain, and the cases that were due beside it -/
structure EndS (W : World) (F : Nat → Prop) (cb : Nat) (K : ChL) (n sd : Nat) (x : CS) (v : Value) (D : List (Int × EV)) (w : World) : Prop where
  go : ChGo W F cb K n sd x w
  row : w.ownsRow 0 162 4 v D.length (casesE D)
  inK : ∀ g, v.ownBlock = some g → K.Fk g
theorem EndS.below (h : EndS W F cb K n sd x v D w) (b : Below w.heap.size w w') : EndS W F cb K n sd x v D w' := ⟨h.go.below b, ownsRow_other h.row (fun g hg => b.block g (h.row.lt g hg).2), h.inK⟩
theorem EndS.purse (h : EndS W F cb K n sd x v D w) {p : PS} (k : PurseP K.pb p w w') : EndS W F cb K n sd { x with p := p } v D w' :=
  ⟨h.go.purse k, ownsRow_other h.row (fun g hg => k.1.block g (h.row.lt g hg).2 (fun e => h.go.ch.d1.2.1 (by rw [← e]; exact h.inK g hg))), h.inK⟩
theorem EndS.stakes (h : EndS W F cb K n sd x v D w) {s : SS} (k : StakesP K.sb K.Fs n s w w') : EndS W F cb (K.withS w w') n sd { x with s := s } v D w' :=
  ⟨h.go.stakes (Nat.le_refl n) k, ownsRow_other h.row (fun g hg => k.1.block g (h.row.lt g hg).2 (fun e => (h.go.ch.d2 g e).1 (h.inK g hg))), h.inK⟩
/-- .. and a case in a box of the call's own -/
structure EndB (W : World) (F : Nat → Prop) (cb : Nat) (K : ChL) (n sd : Nat) (x : CS) (v : Value) (D : List (Int × EV)) (g : Nat) (c : Int × EV) (w : World) : Prop where
  s : EndS W F cb K n sd x v D w
  gN : ¬ K.foot cb g
  glt : g < w.heap.size
  b0 : w.cell? ⟨g, 0, none⟩ = some (.int .i64 c.1)
  b1 : w.cell? ⟨g, 1, none⟩ = some (.int .i64 c.2.b)
  b2 : w.cell? ⟨g, 2, none⟩ = some (.int .i64 c.2.c)
  b3 : w.cell? ⟨g, 3, none⟩ = some (.int .i64 c.2.n)
variable {g : Nat} {c : Int × EV}
theorem EndS.box (h : EndS W F cb K n sd x v D w) (c : Int × EV) (t : TypeId) : EndB W F cb K n sd x v D w.heap.size c (w.alloc (.cells #[.int .i64 c.1, .int .i64 c.2.b, .int .i64 c.2.c, .int .i64 c.2.n] t)) := by
  have hn := heap_alloc_new w (.cells #[.int .i64 c.1, .int .i64 c.2.b, .int .i64 c.2.c, .int .i64 c.2.n] t)
  refine ⟨h.below ((Below.refl _ w).alloc (Nat.le_refl _) _), fun hf => by have := h.go.ch.footlt _ hf; omega, by simp, ?_, ?_, ?_, ?_⟩
  all_goals (unfold World.cell?; rw [hn]; simp)
theorem EndB.below (h : EndB W F cb K n sd x v D g c w) (b : Below w.heap.size w w') : EndB W F cb K n sd x v D g c w' :=
  ⟨h.s.below b, h.gN, Nat.lt_of_lt_of_le h.glt b.size, by rw [b.cell (p := ⟨g, 0, none⟩) h.glt]; exact h.b0, by rw [b.cell (p := ⟨g, 1, none⟩) h.glt]; exact h.b1, by rw [b.cell (p := ⟨g, 2, none⟩) h.glt]; exact h.b2, by rw [b.cell (p := ⟨g, 3, none⟩) h.glt]; exact h.b3⟩
theorem EndB.keep {G : Nat → Prop} {K' : ChL} (h : EndB W F cb K n sd x v D g c w) (k : Keep G w w') (hG : ∀ b, G b → K.foot cb b) (hs : EndS W F cb K' n sd y v D w') (hf : ∀ b, K'.foot cb b → K.foot cb b ∨ (w.heap.size ≤ b ∧ b < w'.heap.size)) : EndB W F cb K' n sd y v D g c w' := by
  have hn : ¬ G g := fun e => h.gN (hG g e)
  refine ⟨hs, fun e => ?_, Nat.lt_of_lt_of_le h.glt k.size, by rw [k.cell (p := ⟨g, 0, none⟩) h.glt hn]; exact h.b0, by rw [k.cell (p := ⟨g, 1, none⟩) h.glt hn]; exact h.b1, by rw [k.cell (p := ⟨g, 2, none⟩) h.glt hn]; exact h.b2, by rw [k.cell (p := ⟨g, 3, none⟩) h.glt hn]; exact h.b3⟩
  rcases hf g e with e | e
  · exact h.gN e
  · have := h.glt; omega
theorem EndB.purse (h : EndB W F cb K n sd x v D g c w) {p : PS} (k : PurseP K.pb p w w') : EndB W F cb K n sd { x with p := p } v D g c w' :=
  h.keep k.1 (fun b hb => .inr (.inl hb)) (h.s.purse k) (fun b hb => .inl hb)
theorem EndB.stakes (h : EndB W F cb K n sd x v D g c w) {s : SS} (k : StakesP K.sb K.Fs n s w w') : EndB W F cb (K.withS w w') n sd { x with s := s } v D g c w' :=
  h.keep k.1 (fun b hb => .inr (.inr (.inl hb))) (h.s.stakes k) (fun b hb => by
    rcases hb with hb | hb | hb | hb
    · exact .inl (.inl hb)
    · exact .inl (.inr (.inl hb))
    · rcases hb with hb | hb
      · exact .inl (.inr (.inr (.inl hb)))
      · exact .inr hb
    · exact .inl (.inr (.inr (.inr hb))))
end
/-- the judged, with the court that was asked -/
def CS.judgedK (x : CS) (j : Nat) : CS := { (x.k.due.take j).foldl CS.judge x with k := x.k.asked }
theorem CS.judgedK_zero (x : CS) : x.judgedK 0 = { x with k := x.k.asked } := rfl
theorem CS.judgedK_step (x : CS) (j : Nat) (c : Int × EV) (h : x.k.due[j]? = some c) : x.judgedK (j + 1) = (x.judgedK j).judge c := by
  unfold CS.judgedK
  rw [List.take_add_one, h]
  simp only [Option.toList_some, List.foldl_append, List.foldl_cons, List.foldl_nil]
  rfl
theorem CS.judgedK_all (x : CS) : x.judgedK x.k.due.length = { x.judged with k := x.k.asked } := by
  unfold CS.judgedK CS.judged; rw [List.take_length]
theorem CS.judgedK_len (x : CS) (j : Nat) : (x.judgedK j).s.W.length = x.s.W.length := by
  have : ∀ (l : List (Int × EV)) (y : CS), (l.foldl CS.judge y).s.W.length = y.s.W.length := by
    intro l
    induction l with
    | nil => intro y; rfl
    | cons c l ih => intro y; rw [List.foldl_cons, ih]; exact SS.slash_len _ _ _ _
  exact this _ _
theorem CS.judgedK_inv {x : CS} (h : x.Inv) (j : Nat) : (x.judgedK j).Inv := by
  have hd : ∀ c ∈ x.k.due.take j, ownB c.1 = true := fun c hc => (h.known c (List.mem_of_mem_drop (List.mem_of_mem_take hc))).1
  obtain ⟨a, b, d1, d2, d3, d4, d5⟩ := CS.judges_inv (x.k.due.take j) h hd
  refine ⟨a.p, a.s, a.reg, a.bal, h.known, Nat.le_refl _, a.b0, a.b1, a.three, a.pic, a.cy, a.lv⟩
end Go.Proofs.YtajnfkmkombajabGreatDoor
