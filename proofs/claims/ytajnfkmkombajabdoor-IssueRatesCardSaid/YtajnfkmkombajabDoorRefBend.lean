/- Contract of the document's BendOf, at a right bend. -/
import Derived.Test.YtajnfkmkombajabDoorPlRefBend
import Derived.Test.YtajnfkmkombajabDoorBend2
import Derived.Deep.QuietTactic
import Derived.BigQuiet
set_option linter.unusedVariables false
set_option linter.unusedSimpArgs false
namespace Go.Proofs.YtajnfkmkombajabDoor
open Go.RowKit

set_option maxRecDepth 8000 in
set_option maxHeartbeats 1000000 in
theorem ref_BendOf (b off len cap : Nat) (l : List (Int × Int)) (x : Int) (w : World) (R : RdP w (some ⟨b, off, none⟩) len cap l) (hf : (checkF l).1 = 0) (h0 : 0 ≤ x) (h1 : x ≤ 1000000) :
    Calls Tryd.prog 62 #[.slice (some ⟨b, off, none⟩) len cap, .int .i64 x] w fun e w' => e = .returned (.int .i64 (bendV l x)) ∧ Below w.heap.size w w' := by
  have B := check_ok hf
  have hlen : 2 ≤ len := by rw [← R.size]; exact B.two
  have hlen8 : len ≤ 8 := by rw [← R.size]; exact B.eight
  obtain ⟨_, b', off', ha, hb, hcell⟩ := (R.split).resolve_left (by omega)
  cases ha
  have Hc := Lib.hid hcell; clear hcell
  have HB := Lib.hid B; clear B
  have HR := Lib.hid R; clear R
  obtain ⟨z1, z2⟩ := Hc.out 0 (by omega)
  simp only [Nat.zero_mul, Nat.add_zero] at z1 z2
  have hln : (0 : Int) < (len : Int) := by omega
  obtain ⟨p0, hp0⟩ : ∃ p0, p0 = l.getD 0 (0, 0) := ⟨_, rfl⟩
  rw [← hp0] at z1 z2
  have Hp0 := Lib.hid hp0; clear hp0
  clear hf
  by_cases hx0 : x < p0.1
  · have HV : Hid (bendV l x = p0.2) := (by unfold bendV; rw [← Hp0.out, if_pos hx0] : bendV l x = p0.2)
    go_enter Tryd.func62, Tryd.ntmps62
    go_wp2
    go_ret
    exact ⟨by rw [HV.out]; rfl, Below.refl _ _⟩
  · have HV : Hid (bendV l x = bendGo (l.drop 0) x) := (by unfold bendV; rw [← Hp0.out, if_neg hx0]; rfl : bendV l x = bendGo (l.drop 0) x)
    have hpx : p0.1 ≤ x := by omega
    go_enter Tryd.func62, Tryd.ntmps62
    go_wp2_with fail
    go_loopw [5] (fun i wr => ∃ m : Nat, 1 ≤ m ∧ m ≤ len ∧ i = .int .i64 m ∧ Below w.heap.size w wr ∧ bendV l x = bendGo (l.drop (m - 1)) x ∧ (l.getD (m - 1) (0, 0)).1 ≤ x) (fun i _ => len - (intOf i).toNat)
    case atStart => exact ⟨1, Nat.le_refl _, by omega, rfl, Below.refl _ _, HV.out, by rw [← Hp0.out]; exact hpx⟩
    case round =>
      obtain ⟨m, hm1, hk, rfl, hbel, hv, hkx⟩ := hrel
      have Hv := Lib.hid hv; clear hv
      have Hbel := Lib.hid hbel; clear hbel
      have hbs : b < wr.heap.size := Nat.lt_of_lt_of_le hb Hbel.out.size
      have carry : ∀ o, wr.cell? ⟨b, o, none⟩ = w.cell? ⟨b, o, none⟩ := fun o => Hbel.out.cell (p := ⟨b, o, none⟩) hb
      have Hcarry := Lib.hid carry; clear carry
      have i0 : (0 : Int) ≤ (m : Int) - 1 := by omega
      have i1 : (m : Int) - 1 < (len : Int) := by omega
      obtain ⟨c1, c2⟩ := Hc.out (m - 1) (by omega)
      rw [← Hcarry.out] at c1 c2
      by_cases hlt : m < len
      · obtain ⟨d1, d2⟩ := Hc.out m hlt
        rw [← Hcarry.out] at d1 d2
        have hmm : m - 1 + 1 = m := by omega
        have HX0 := bendGo_here (l := l) (k := m - 1) (x := x) (by rw [HR.out.size]; omega)
        have HY0 := bendGo_step (l := l) (k := m - 1) (x := x) (by rw [HR.out.size]; omega)
        have gp := HB.out.good (m - 1) (by rw [HR.out.size]; omega)
        have gq := HB.out.good m (by rw [HR.out.size]; omega)
        have hr := HB.out.rise (m - 1) (by rw [HR.out.size]; omega)
        rw [hmm] at HX0 HY0 hr
        have HX := Lib.hid HX0; have HY := Lib.hid HY0
        clear HX0 HY0 hmm
        obtain ⟨p, hp⟩ : ∃ p, p = l.getD (m - 1) (0, 0) := ⟨_, rfl⟩
        obtain ⟨q, hq⟩ : ∃ q, q = l.getD m (0, 0) := ⟨_, rfl⟩
        rw [← hp] at c1 c2 HX gp hr hkx
        rw [← hq] at d1 d2 HX HY gq hr
        obtain ⟨px, py⟩ := p
        obtain ⟨qx, qy⟩ := q
        simp only [ptBad, not_or, Int.not_lt] at gp gq
        simp only at c1 c2 d1 d2 hr hkx
        have Hp := Lib.hid hp; have Hq := Lib.hid hq
        clear hp hq
        obtain ⟨gp1, gp2, gp3, gp4⟩ := gp
        obtain ⟨gq1, gq2, gq3, gq4⟩ := gq
        have j3 : (m : Int) < (len : Int) := by omega
        have hW : (qx - px == 0) = false := by simp; omega
        by_cases hx : x < qx
        · have HZ0 := HX.out hx
          simp only at HZ0
          by_cases hup : py ≤ qy
          · have HZ := Lib.hid HZ0
            clear HZ0
            obtain ⟨m0, m1⟩ := mul_small (a := qy - py) (b := x - px) (by omega) (by omega) (by omega) (by omega)
            obtain ⟨t1, t2, t3⟩ := div_small (a := (qy - py) * (x - px)) (b := qx - px) m0 (by omega) (by omega)
            obtain ⟨M, hM⟩ : ∃ M, M = (qy - py) * (x - px) := ⟨_, rfl⟩
            rw [← hM] at m0 m1 t1 t2 t3 HZ
            have hMe : (qy - py) * (x - px) = M := hM.symm
            clear hM
            have w1 : wrap64 M = M := IntWalk.wrap64_in _ ⟨by omega, by omega⟩
            have w2 : IntKind.i64.wrap M = M := IntWalk.i64_in _ ⟨by omega, by omega⟩
            generalize hD : M / (qx - px) = D at *
            clear hD
            have w3 : wrap64 D = D := IntWalk.wrap64_in _ ⟨by omega, by omega⟩
            have w4 : IntKind.i64.wrap D = D := IntWalk.i64_in _ ⟨by omega, by omega⟩
            have v1 : IntKind.i64.wrap (qx - px) = qx - px := IntWalk.i64_in _ ⟨by omega, by omega⟩
            have v2 : IntKind.i64.wrap (qy - py) = qy - py := IntWalk.i64_in _ ⟨by omega, by omega⟩
            have v3 : IntKind.i64.wrap (x - px) = x - px := IntWalk.i64_in _ ⟨by omega, by omega⟩
            have v4 : IntKind.i64.wrap (py + D) = py + D := IntWalk.i64_in _ ⟨by omega, by omega⟩
            have v5 : IntKind.i64.wrap ((m : Int) - 1) = (m : Int) - 1 := IntWalk.i64_in _ ⟨by omega, by omega⟩
            go_wp2_with fail
            go_quiet (fail)
            go_wp2_with fail
            go_quiet (fail)
            go_wp2_with fail
            go_quiet (fail)
            go_wp2_with fail
            go_ret
            exact ⟨by rw [Hv.out, HZ.out]; rfl, by first | exact (((Hbel.out.alloc Hbel.out.size _).drewN _).drewN _).drewN _ | exact (Hbel.out.alloc Hbel.out.size _).drewN _⟩
          · rw [bend_fall (p := (px, py)) (q := (qx, qy)) (x := x) (by simp only; omega)] at HZ0
            simp only at HZ0
            have HZ := Lib.hid HZ0
            clear HZ0
            have hdn : qy < py := by omega
            clear hup
            obtain ⟨m0, m1⟩ := mul_small (a := py - qy) (b := x - px) (by omega) (by omega) (by omega) (by omega)
            obtain ⟨t1, t2, t3⟩ := div_small (a := (py - qy) * (x - px) + (qx - px) - 1) (b := qx - px) (by omega) (by omega) (by omega)
            obtain ⟨M, hM⟩ : ∃ M, M = (py - qy) * (x - px) := ⟨_, rfl⟩
            rw [← hM] at m0 m1 t1 t2 t3 HZ
            have hMe : (py - qy) * (x - px) = M := hM.symm
            clear hM
            have w1 : wrap64 M = M := IntWalk.wrap64_in _ ⟨by omega, by omega⟩
            have w2 : IntKind.i64.wrap M = M := IntWalk.i64_in _ ⟨by omega, by omega⟩
            generalize hD : (M + (qx - px) - 1) / (qx - px) = D at *
            clear hD
            have w3 : wrap64 D = D := IntWalk.wrap64_in _ ⟨by omega, by omega⟩
            have w4 : IntKind.i64.wrap D = D := IntWalk.i64_in _ ⟨by omega, by omega⟩
            have v1 : IntKind.i64.wrap (qx - px) = qx - px := IntWalk.i64_in _ ⟨by omega, by omega⟩
            have v2 : IntKind.i64.wrap (py - qy) = py - qy := IntWalk.i64_in _ ⟨by omega, by omega⟩
            have v3 : IntKind.i64.wrap (x - px) = x - px := IntWalk.i64_in _ ⟨by omega, by omega⟩
            have v4 : IntKind.i64.wrap (py - D) = py - D := IntWalk.i64_in _ ⟨by omega, by omega⟩
            have v5 : IntKind.i64.wrap ((m : Int) - 1) = (m : Int) - 1 := IntWalk.i64_in _ ⟨by omega, by omega⟩
            have v6 : IntKind.i64.wrap (M + (qx - px)) = M + (qx - px) := IntWalk.i64_in _ ⟨by omega, by omega⟩
            have v7 : IntKind.i64.wrap (M + (qx - px) - 1) = M + (qx - px) - 1 := IntWalk.i64_in _ ⟨by omega, by omega⟩
            go_wp2_with fail
            go_quiet (fail)
            go_wp2_with fail
            go_quiet (fail)
            go_wp2_with fail
            go_quiet (fail)
            go_wp2_with fail
            go_ret
            exact ⟨by rw [Hv.out, HZ.out]; rfl, by first | exact (((Hbel.out.alloc Hbel.out.size _).drewN _).drewN _).drewN _ | exact (Hbel.out.alloc Hbel.out.size _).drewN _⟩
        · have HZ := Lib.hid (HY.out (by simpa using hx))
          go_wp2_with fail
          go_roundw
          case rel => exact ⟨m + 1, by omega, by omega, by go_num, Hbel.out, by rw [Hv.out, HZ.out]; rfl, by rw [Nat.add_sub_cancel, ← Hq.out]; simp only; omega⟩
          case measure => simp [intOf]; omega
      · obtain rfl : m = len := by omega
        have HL := Lib.hid (bendGo_last (l := l) (k := m - 1) (x := x) (by rw [HR.out.size]; omega))
        clear hlt
        go_wp2_with fail
        go_ret
        exact ⟨by rw [Hv.out, HL.out]; rfl, Hbel.out⟩
end Go.Proofs.YtajnfkmkombajabDoor
