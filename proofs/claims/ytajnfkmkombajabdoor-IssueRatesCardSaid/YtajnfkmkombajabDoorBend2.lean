/- Contracts of package part: down, Bend. -/
import Derived.Test.YtajnfkmkombajabDoorBend
set_option linter.unusedVariables false
set_option linter.unusedSimpArgs false
namespace Go.Proofs.YtajnfkmkombajabDoor
open Go.RowKit

theorem tmod_form (a b : Int) (hb : 1 ≤ b) : a.tmod b = a % b - if 0 ≤ a ∨ b ∣ a then 0 else b := by
  rw [Int.tmod_eq_emod]; split <;> simp [Int.natAbs_of_nonneg (show 0 ≤ b by omega)]

/-- division down, out of Go's own -/
theorem down_neg {a b : Int} (hb : 1 ≤ b) (hz : a.tmod b < 0) : a.tdiv b - 1 = a / b := by
  have hm := tmod_form a b hb
  have hnn := Int.emod_nonneg a (show b ≠ 0 by omega)
  rw [Int.tdiv_eq_ediv]
  split
  · rename_i hc; rw [if_pos hc] at hm; omega
  · rw [Int.sign_eq_one_of_pos (by omega)]; omega
theorem down_pos {a b : Int} (hb : 1 ≤ b) (hz : ¬ a.tmod b < 0) : a.tdiv b = a / b := by
  have hm := tmod_form a b hb
  have hlt := Int.emod_lt_of_pos a (show 0 < b by omega)
  rw [Int.tdiv_eq_ediv]
  split
  · omega
  · rename_i hc; rw [if_neg hc] at hm; omega

theorem part_down (a b : Int) (w : World) (hb : 1 ≤ b) (h1 : -1000000000000 ≤ a) (h2 : a ≤ 1000000000000) :
    Calls Tryd.prog 125 #[.int .i64 a, .int .i64 b] w fun e w' => e = .returned (.int .i64 (a / b)) ∧ w = w' := by
  have hbz : (b = 0) = False := by simp; omega
  have hx : (a.tdiv b).natAbs ≤ a.natAbs := by rw [Int.natAbs_tdiv]; exact Nat.div_le_self _ _
  have e0 : IntKind.i64.wrap (a.tdiv b) = a.tdiv b := IntWalk.i64_in _ ⟨by omega, by omega⟩
  have e1 : wrap64 (a.tdiv b) = a.tdiv b := IntWalk.wrap64_in _ ⟨by omega, by omega⟩
  have e2 : IntKind.i64.wrap (a.tdiv b - 1) = a.tdiv b - 1 := IntWalk.i64_in _ ⟨by omega, by omega⟩
  clear hx
  by_cases hz : a.tmod b < 0
  · have E2 := Lib.hid (down_neg hb hz)
    go_enter Tryd.func125, Tryd.ntmps125
    go_wp2
    go_ret
    exact ⟨by rw [← E2.out]; rfl, rfl⟩
  · have E2 := Lib.hid (down_pos hb hz)
    have hd : decide (a.tmod b < 0) = false := by simp only [decide_eq_false_iff_not]; exact hz
    clear hz
    go_enter Tryd.func125, Tryd.ntmps125
    go_wp2
    go_ret
    exact ⟨by rw [← E2.out]; rfl, rfl⟩
def BendPost (A : Nat → Addr) (l : List (Int × Int)) (x : Int) (w : World) (e : Ending) (w' : World) : Prop :=
  ∃ v, e = .returned (.tuple #[.int .i64 (if (bendF l x).1 = 0 then bendV l x else 0), v]) ∧ ErrIs A w w' v (bendF l x) ∧ Below w.heap.size w w'

theorem bend_close {A : Nat → Addr} {l : List (Int × Int)} {x n : Int} {w W : World} (hf : (checkF l).1 = 0) (h0 : 0 ≤ x) (h1 : x ≤ 1000000) (hn : bendV l x = n) (hb : Below w.heap.size w W) : BendPost A l x w (.returned (.tuple #[.int .i64 n, .nilIface])) W := by
  have e : bendF l x = (0, -1) := by unfold bendF; rw [if_neg (by simp [hf]), if_neg (by omega)]
  exact ⟨_, by rw [e, hn]; rfl, .inl ⟨by rw [e], by rw [e]; rfl⟩, hb⟩

set_option maxHeartbeats 1000000 in
theorem bend_ok (A : Nat → Addr) (S : List Nat) (b off len cap : Nat) (l : List (Int × Int)) (x : Int) (w : World) (R : RdP w (some ⟨b, off, none⟩) len cap l) (hE : Errs A S w) (h2 : 2 ∈ S) (h3 : 3 ∈ S)
    (hf : (checkF l).1 = 0) (h0 : 0 ≤ x) (h1 : x ≤ 1000000) :
    Calls Tryd.prog 58 #[.slice (some ⟨b, off, none⟩) len cap, .int .i64 x] w (BendPost A l x w) := by
  have B := check_ok hf
  have hlen : 2 ≤ len := by rw [← R.size]; exact B.two
  have hlen8 : len ≤ 8 := by rw [← R.size]; exact B.eight
  have hlc := R.lc
  have HC := part_Check A S _ _ _ _ _ R hE h2 h3
  rw [checkF_zero hf] at HC
  have HC2 : Hid (Calls Tryd.prog 60 #[.slice (some ⟨b, off, none⟩) len cap] w fun e w' => e = .returned .nilIface ∧ Below w.heap.size w w') := HC.mono fun e w' ⟨v, he, hi, hb⟩ => by
    rcases hi with ⟨_, hv⟩ | ⟨hn, _⟩
    · exact ⟨by rw [he, hv]; rfl, hb⟩
    · simp at hn
  clear HC
  obtain ⟨_, b', off', ha, hb, hcell⟩ := (R.split).resolve_left (by omega)
  cases ha
  have Hc := Lib.hid hcell; clear hcell
  have HB := Lib.hid B; clear B
  have HF := Lib.hid hf; clear hf
  have HR := Lib.hid R; clear R
  obtain ⟨z1, z2⟩ := Hc.out 0 (by omega)
  simp only [Nat.zero_mul, Nat.add_zero] at z1 z2
  have hln : (0 : Int) < (len : Int) := by omega
  have i1 : (0 : Int) ≤ (len : Int) - 1 := by omega
  have i2 : (len : Int) - 1 ≤ (cap : Int) := by omega
  have i3 : (len : Int) - 1 < (len : Int) := by omega
  have e1 : ((len : Int) - 1).toNat = len - 1 := by omega
  obtain ⟨p0, hp0⟩ : ∃ p0, p0 = l.getD 0 (0, 0) := ⟨_, rfl⟩
  rw [← hp0] at z1 z2
  have Hp0 := Lib.hid hp0; clear hp0
  by_cases hx0 : x < p0.1
  · have HV : Hid (bendV l x = p0.2) := (by unfold bendV; rw [← Hp0.out, if_pos hx0] : bendV l x = p0.2)
    go_enter Tryd.func58, Tryd.ntmps58
    go_wp2_with (go_at_call 60; refine HC2.out.mono ?_; rintro e w1 ⟨rfl, hb1⟩; rw [← hb1.cell (p := ⟨b, off, none⟩) hb] at z1; rw [← hb1.cell (p := ⟨b, off + 1, none⟩) hb] at z2)
    go_ret2
    exact bend_close HF.out h0 h1 HV.out hb1
  · have HV : Hid (bendV l x = bendGo (l.drop 0) x) := (by unfold bendV; rw [← Hp0.out, if_neg hx0]; rfl : bendV l x = bendGo (l.drop 0) x)
    go_enter Tryd.func58, Tryd.ntmps58
    go_wp2_with (go_at_call 60; refine HC2.out.mono ?_; rintro e w1 ⟨rfl, hb1⟩; rw [← hb1.cell (p := ⟨b, off, none⟩) hb] at z1; rw [← hb1.cell (p := ⟨b, off + 1, none⟩) hb] at z2)
    have Hb1 := Lib.hid hb1
    go_loopw [38] (fun i wr => ∃ k : Nat, k + 1 ≤ len ∧ i = .int .i64 k ∧ Below w.heap.size w wr ∧ bendV l x = bendGo (l.drop k) x) (fun i _ => len - (intOf i).toNat)
    case atStart => exact ⟨0, by omega, rfl, Hb1.out, HV.out⟩
    case round =>
      obtain ⟨k, hk, rfl, hbel, hv⟩ := hrel
      have Hv := Lib.hid hv; clear hv
      have Hbel := Lib.hid hbel; clear hbel
      have hbs : b < wr.heap.size := Nat.lt_of_lt_of_le hb Hbel.out.size
      have carry : ∀ o, wr.cell? ⟨b, o, none⟩ = w.cell? ⟨b, o, none⟩ := fun o => Hbel.out.cell (p := ⟨b, o, none⟩) hb
      have Hcarry := Lib.hid carry; clear carry
      by_cases hlt : k + 1 < len
      · obtain ⟨c1, c2⟩ := Hc.out k (by omega)
        obtain ⟨d1, d2⟩ := Hc.out (k + 1) hlt
        rw [← Hcarry.out] at c1 c2 d1 d2
        have HX := Lib.hid (bendGo_here (l := l) (k := k) (x := x) (by rw [HR.out.size]; exact hlt))
        have HY := Lib.hid (bendGo_step (l := l) (k := k) (x := x) (by rw [HR.out.size]; exact hlt))
        have gp := HB.out.good k (by rw [HR.out.size]; omega)
        have gq := HB.out.good (k + 1) (by rw [HR.out.size]; omega)
        have hr := HB.out.rise k (by rw [HR.out.size]; omega)
        obtain ⟨p, hp⟩ : ∃ p, p = l.getD k (0, 0) := ⟨_, rfl⟩
        obtain ⟨q, hq⟩ : ∃ q, q = l.getD (k + 1) (0, 0) := ⟨_, rfl⟩
        rw [← hp] at c1 c2 HX gp hr
        rw [← hq] at d1 d2 HX HY gq hr
        have hm := bend_mul gp gq h0 h1
        obtain ⟨px, py⟩ := p
        obtain ⟨qx, qy⟩ := q
        simp only [ptBad, not_or, Int.not_lt] at gp gq
        simp only at c1 c2 d1 d2 hr hm
        have Hp := Lib.hid hp; have Hq := Lib.hid hq
        clear hp hq
        obtain ⟨gp1, gp2, gp3, gp4⟩ := gp
        obtain ⟨gq1, gq2, gq3, gq4⟩ := gq
        obtain ⟨hm1, hm2⟩ := hm
        have j1 : (k : Int) < (len : Int) - 1 := by omega
        have j2 : k < len - 1 := by omega
        have j3 : (k : Int) + 1 < (len : Int) := by omega
        have hmw : IntKind.i64.wrap ((qy - py) * (x - px)) = (qy - py) * (x - px) := IntWalk.i64_in _ ⟨by omega, by omega⟩
        by_cases hx : x < qx
        · have HZ := Lib.hid (HX.out hx)
          have hdw := part_down ((qy - py) * (x - px)) (qx - px)
          have Hdw := Lib.hid hdw; clear hdw
          have hq1 : 1 ≤ qx - px := by omega
          have hD1 : (-1000000000000 : Int) ≤ ((qy - py) * (x - px)) / (qx - px) ∧ ((qy - py) * (x - px)) / (qx - px) ≤ 1000000000000 := by
            have := Int.natAbs_ediv_le_natAbs ((qy - py) * (x - px)) (qx - px)
            omega
          obtain ⟨hD2, hD3⟩ := hD1
          obtain ⟨M, hM⟩ : ∃ M, M = (qy - py) * (x - px) := ⟨_, rfl⟩
          rw [← hM] at hmw hm1 hm2 hD2 hD3 Hdw HZ
          have hMe : (qy - py) * (x - px) = M := hM.symm
          clear hM
          go_wp2_with fail
          go_quiet ((go_at_call 125; exact Calls.quiet_of_same ((Hdw.out _ hq1 hm1 hm2).mono fun _ _ ⟨a, b⟩ => ⟨a, b.symm⟩)))
          go_wp2
          go_ret2
          exact bend_close HF.out h0 h1 (n := py + M / (qx - px)) (by rw [Hv.out, HZ.out]) (((Hbel.out.alloc Hbel.out.size _).alloc (by have := Hbel.out.size; simp; omega) _).drewN _)
        · have HZ := Lib.hid (HY.out (by simpa using hx))
          go_wp2
          go_roundw
          case rel => exact ⟨k + 1, by omega, by go_num, (Hbel.out.alloc Hbel.out.size _).alloc (by have := Hbel.out.size; simp; omega) _, by rw [Hv.out, HZ.out]⟩
          case measure => simp [intOf]; omega
      · have hke : k + 1 = len := by omega
        have Hke := Lib.hid hke; clear hke
        obtain ⟨c1, c2⟩ := Hc.out k (by omega)
        rw [← Hcarry.out] at c1 c2
        have ek : len - 1 = k := by have := Hke.out; omega
        have HL := Lib.hid (bendGo_last (l := l) (k := k) (x := x) (by rw [HR.out.size]; exact Hke.out))
        have j1 : ¬ (k : Int) < (len : Int) - 1 := by have := Hke.out; omega
        go_wp2
        go_ret2
        exact bend_close HF.out h0 h1 (n := (l.getD k (0, 0)).2) (by rw [Hv.out, HL.out]) Hbel.out

end Go.Proofs.YtajnfkmkombajabDoor
