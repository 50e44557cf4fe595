/-
  Contracts of package part: Check, down, Bend.
  Contracts of package part: down, Bend.
  Contracts of package issue.
-/
import Derived.Test.YtajnfkmkombajacGreatDoorQSA07
import Derived.Test.YtajnfkmkombajacGreatDoorQSA05
import Derived.Test.YtajnfkmkombajacGreatDoorQSA02
import Derived.Deep.DeepCutAuto
set_option linter.unusedVariables false
set_option linter.unusedSimpArgs false
set_option linter.unusedVariables false
namespace Go.Proofs.YtajnfkmkombajacGreatDoor
open Go.RowKit

def CheckPost (A : Nat → Addr) (f : Nat × Int) (w : World) (e : Ending) (w' : World) : Prop := ∃ v, e = .returned v ∧ ErrIs A w w' v f ∧ Below w.heap.size w w'

theorem check_close {A : Nat → Addr} {f : Nat × Int} {c k g : Nat} {w W : World} (hf : f = (c, (k : Int))) (hg : w.heap.size ≤ g) (hb : Below w.heap.size w W) (c1 : W.cell? ⟨g, 0, none⟩ = some (.int .i64 k)) (c2 : W.cell? ⟨g, 1, none⟩ = some (ev A c)) :
    CheckPost A f w (.returned (.iface 198 (.pointer (some ⟨g, 0, none⟩)))) W := by
  subst hf
  exact ⟨_, rfl, .inr ⟨by simp, g, hg, rfl, c1, c2⟩, hb⟩

set_option maxHeartbeats 1000000 in
theorem part_Check (A : Nat → Addr) (S : List Nat) (ao : Option Addr) (len cap : Nat) (l : List (Int × Int)) (w : World) (R : RdP w ao len cap l) (hE : Errs A S w) (h2 : 2 ∈ S) (h3 : 3 ∈ S) :
    Calls Tryz.prog 155 #[.slice ao len cap] w (CheckPost A (checkF l) w) := by
  have HE := Lib.hid hE; clear hE
  by_cases hlen : len < 2 ∨ 8 < len
  · have HF := Lib.hid (checkF_out (l := l) (by rw [R.size]; exact hlen))
    have g3 : w.cell? ⟨4, 0, none⟩ = some (.iface 386 (.pointer (some (A 3)))) := HE.out.cell 3 h3
    clear R
    by_cases h1 : len < 2
    · have e1 : decide ((len : Int) < 2) = true := by simp; omega
      clear hlen
      go_enter Tryz.func155, Tryz.ntmps155
      go_wp2
      go_ret
      exact ⟨_, rfl, .inl ⟨by rw [HF.out], by rw [HF.out]; rfl⟩, Below.refl _ _⟩
    · have e1 : decide ((len : Int) < 2) = false := by simp; omega
      have e2 : decide ((8 : Int) < (len : Int)) = true := by simp; omega
      clear hlen
      go_enter Tryz.func155, Tryz.ntmps155
      go_wp2
      go_ret
      exact ⟨_, rfl, .inl ⟨by rw [HF.out], by rw [HF.out]; rfl⟩, Below.refl _ _⟩
  · rcases R.split with ⟨h0, _⟩ | ⟨h0, b, off, rfl, hb, hcell⟩
    · omega
    have e1 : decide ((len : Int) < 2) = false := by simp; omega
    have e2 : decide ((8 : Int) < (len : Int)) = false := by simp; omega
    have hl8 : (len : Int) ≤ 8 := by omega
    have Hck := Lib.hid (checkF_in (l := l) (by rw [R.size]; exact hlen))
    have Hc := Lib.hid hcell; clear hcell
    have HR := Lib.hid R; clear R
    clear hlen
    go_enter Tryz.func155, Tryz.ntmps155
    go_wp2
    go_loopw [16] (fun i wr => ∃ k : Nat, k ≤ len ∧ i = .int .i64 k ∧ Below w.heap.size w wr ∧ checkF l = chk k (prevX l k) (l.drop k)) (fun i _ => len - (intOf i).toNat)
    case atStart => exact ⟨0, Nat.zero_le _, rfl, Below.refl _ _, Hck.out⟩
    case round =>
      obtain ⟨k, hk, rfl, hbel, hck⟩ := hrel
      have HCk := Lib.hid hck; clear hck
      by_cases hlt : k < len
      · obtain ⟨c1, c2⟩ := Hc.out k hlt
        rw [← hbel.cell (p := ⟨b, off + k * 2, none⟩) hb] at c1
        rw [← hbel.cell (p := ⟨b, off + k * 2 + 1, none⟩) hb] at c2
        have hbs : b < wr.heap.size := Nat.lt_of_lt_of_le hb hbel.size
        have hEr := HE.out.below hbel
        have g2 : wr.cell? ⟨0, 0, none⟩ = some (.iface 386 (.pointer (some (A 2)))) := hEr.cell 2 h2
        have g3 : wr.cell? ⟨4, 0, none⟩ = some (.iface 386 (.pointer (some (A 3)))) := hEr.cell 3 h3
        have s2 := World.block_lt_of_cell? wr _ g2
        have s3 := World.block_lt_of_cell? wr _ g3
        simp only at s2 s3
        have HEr := Lib.hid hEr; clear hEr
        have hllen : k < l.length := by rw [HR.out.size]; exact hlt
        have Hbad := Lib.hid (chk_bad hllen)
        have Hshape := Lib.hid (chk_shape hllen)
        have Hnext := Lib.hid (chk_next hllen)
        clear hllen
        obtain ⟨p, hp⟩ : ∃ p, p = l.getD k (0, 0) := ⟨_, rfl⟩
        rw [← hp] at c1 c2 Hbad Hshape Hnext
        have Hp := Lib.hid hp; clear hp
        obtain ⟨x, y⟩ := p
        simp only at c1 c2
        rcases ptBad_cases (x := x) (y := y) with hx | hx | hx | hx | hx
        · have HPB : Hid (ptBad (x, y)) := .inl (by omega)
          go_wp2
          go_ret
          exact check_close (by rw [HCk.out, Hbad.out HPB.out]) (g := wr.heap.size + 1) (by have := hbel.size; omega) ((hbel.alloc hbel.size _).alloc (by have := hbel.size; simp; omega) _) (by simp [go_sem]) (by simp [go_sem, ev])
        · have HPB : Hid (ptBad (x, y)) := .inr (.inl (by omega))
          go_wp2
          go_ret
          exact check_close (by rw [HCk.out, Hbad.out HPB.out]) (g := wr.heap.size + 1) (by have := hbel.size; omega) ((hbel.alloc hbel.size _).alloc (by have := hbel.size; simp; omega) _) (by simp [go_sem]) (by simp [go_sem, ev])
        · have HPB : Hid (ptBad (x, y)) := .inr (.inr (.inl (by omega)))
          go_wp2
          go_ret
          exact check_close (by rw [HCk.out, Hbad.out HPB.out]) (g := wr.heap.size + 1) (by have := hbel.size; omega) ((hbel.alloc hbel.size _).alloc (by have := hbel.size; simp; omega) _) (by simp [go_sem]) (by simp [go_sem, ev])
        · have HPB : Hid (ptBad (x, y)) := .inr (.inr (.inr (by omega)))
          go_wp2
          go_ret
          exact check_close (by rw [HCk.out, Hbad.out HPB.out]) (g := wr.heap.size + 1) (by have := hbel.size; omega) ((hbel.alloc hbel.size _).alloc (by have := hbel.size; simp; omega) _) (by simp [go_sem]) (by simp [go_sem, ev])
        · have HPB : Hid (¬ ptBad (x, y)) := fun h => by rcases h with h | h | h | h <;> simp only at h <;> omega
          by_cases hk0 : k = 0
          · have HN := Lib.hid (Hnext.out HPB.out (.inl hk0))
            subst hk0
            simp only [Nat.zero_mul, Nat.add_zero] at c1 c2
            go_wp2_with fail
            go_quiet (fail)
            go_wp2
            go_roundw
            case rel => exact ⟨1, by omega, rfl, ((hbel.alloc hbel.size _)).drewN _, by rw [HCk.out, HN.out]⟩
            case measure => simp [intOf]; omega
          · obtain ⟨d1, _⟩ := Hc.out (k - 1) (by omega)
            rw [← hbel.cell (p := ⟨b, off + (k - 1) * 2, none⟩) hb] at d1
            have hk1 : (0 : Int) < (k : Int) := by omega
            have hk1n : 0 < k := by omega
            have hd0 : decide (0 < k) = true := by simp; omega
            have i1 : (0 : Int) ≤ (k : Int) - 1 := by omega
            have i2 : (k : Int) - 1 < (len : Int) := by omega
            obtain ⟨z, hz⟩ : ∃ z, z = (l.getD (k - 1) (0, 0)).1 := ⟨_, rfl⟩
            rw [← hz] at d1
            by_cases hxz : x ≤ z
            · have HS := Lib.hid (Hshape.out HPB.out (by omega) (by rw [← hz]; exact hxz))
              clear hz
              go_wp2_with fail
              go_quiet (fail)
              go_wp2
              go_ret
              exact check_close (by rw [HCk.out, HS.out]) (g := wr.heap.size + 1) (by have := hbel.size; omega) (((hbel.alloc hbel.size _).alloc (by have := hbel.size; simp; omega) _).drewN _) (by simp [go_sem]) (by simp [go_sem, ev])
            · have HN := Lib.hid (Hnext.out HPB.out (.inr (by rw [← hz]; simp only; omega)))
              clear hz
              go_wp2_with fail
              go_quiet (fail)
              go_wp2
              go_roundw
              case rel => exact ⟨k + 1, by omega, by go_num, ((hbel.alloc hbel.size _)).drewN _, by rw [HCk.out, HN.out]⟩
              case measure => simp [intOf]; omega
      · go_wp2
        go_ret
        exact ⟨_, rfl, .inl ⟨by rw [HCk.out, chk_done (by rw [HR.out.size]; omega)], by rw [HCk.out, chk_done (by rw [HR.out.size]; omega)]; rfl⟩, hbel⟩
end Go.Proofs.YtajnfkmkombajacGreatDoor
namespace Go.Proofs.YtajnfkmkombajacGreatDoor
open Go.RowKit

theorem tmod_form (a b : Int) (hb : 1 ≤ b) : a.tmod b = a % b - if 0 ≤ a ∨ b ∣ a then 0 else b := by
  rw [Int.tmod_eq_emod]; split <;> simp [Int.natAbs_of_nonneg (show 0 ≤ b by omega)]

/-- division down, out of Go's own -/
theorem down_neg {a b : Int} (hb : 1 ≤ b) (hz : a.tmod b < 0) : a.tdiv b - 1 = a / b := by
  have hm := tmod_form a b hb
  have hnn := Int.emod_nonneg a (show b ≠ 0 by omega)
  rw [Int.tdiv_eq_ediv]
  split
  · rename_i hc; rw [if_pos hc] at hm; omega
  · rw [Int.sign_eq_one_of_pos (by omega)]; omega
theorem down_pos {a b : Int} (hb : 1 ≤ b) (hz : ¬ a.tmod b < 0) : a.tdiv b = a / b := by
  have hm := tmod_form a b hb
  have hlt := Int.emod_lt_of_pos a (show 0 < b by omega)
  rw [Int.tdiv_eq_ediv]
  split
  · omega
  · rename_i hc; rw [if_neg hc] at hm; omega

theorem part_down (a b : Int) (w : World) (hb : 1 ≤ b) (h1 : -1000000000000 ≤ a) (h2 : a ≤ 1000000000000) :
    Calls Tryz.prog 156 #[.int .i64 a, .int .i64 b] w fun e w' => e = .returned (.int .i64 (a / b)) ∧ w = w' := by
  have hbz : (b = 0) = False := by simp; omega
  have hx : (a.tdiv b).natAbs ≤ a.natAbs := by rw [Int.natAbs_tdiv]; exact Nat.div_le_self _ _
  have e0 : IntKind.i64.wrap (a.tdiv b) = a.tdiv b := IntWalk.i64_in _ ⟨by omega, by omega⟩
  have e1 : wrap64 (a.tdiv b) = a.tdiv b := IntWalk.wrap64_in _ ⟨by omega, by omega⟩
  have e2 : IntKind.i64.wrap (a.tdiv b - 1) = a.tdiv b - 1 := IntWalk.i64_in _ ⟨by omega, by omega⟩
  clear hx
  by_cases hz : a.tmod b < 0
  · have E2 := Lib.hid (down_neg hb hz)
    go_enter Tryz.func156, Tryz.ntmps156
    go_wp2
    go_ret
    exact ⟨by rw [← E2.out]; rfl, rfl⟩
  · have E2 := Lib.hid (down_pos hb hz)
    have hd : decide (a.tmod b < 0) = false := by simp only [decide_eq_false_iff_not]; exact hz
    clear hz
    go_enter Tryz.func156, Tryz.ntmps156
    go_wp2
    go_ret
    exact ⟨by rw [← E2.out]; rfl, rfl⟩
def BendPost (A : Nat → Addr) (l : List (Int × Int)) (x : Int) (w : World) (e : Ending) (w' : World) : Prop :=
  ∃ v, e = .returned (.tuple #[.int .i64 (if (bendF l x).1 = 0 then bendV l x else 0), v]) ∧ ErrIs A w w' v (bendF l x) ∧ Below w.heap.size w w'

theorem bend_close {A : Nat → Addr} {l : List (Int × Int)} {x n : Int} {w W : World} (hf : (checkF l).1 = 0) (h0 : 0 ≤ x) (h1 : x ≤ 1000000) (hn : bendV l x = n) (hb : Below w.heap.size w W) : BendPost A l x w (.returned (.tuple #[.int .i64 n, .nilIface])) W := by
  have e : bendF l x = (0, -1) := by unfold bendF; rw [if_neg (by simp [hf]), if_neg (by omega)]
  exact ⟨_, by rw [e, hn]; rfl, .inl ⟨by rw [e], by rw [e]; rfl⟩, hb⟩

set_option maxHeartbeats 1000000 in
theorem bend_ok (A : Nat → Addr) (S : List Nat) (b off len cap : Nat) (l : List (Int × Int)) (x : Int) (w : World) (R : RdP w (some ⟨b, off, none⟩) len cap l) (hE : Errs A S w) (h2 : 2 ∈ S) (h3 : 3 ∈ S)
    (hf : (checkF l).1 = 0) (h0 : 0 ≤ x) (h1 : x ≤ 1000000) :
    Calls Tryz.prog 93 #[.slice (some ⟨b, off, none⟩) len cap, .int .i64 x] w (BendPost A l x w) := by
  have B := check_ok hf
  have hlen : 2 ≤ len := by rw [← R.size]; exact B.two
  have hlen8 : len ≤ 8 := by rw [← R.size]; exact B.eight
  have hlc := R.lc
  have HC := part_Check A S _ _ _ _ _ R hE h2 h3
  rw [checkF_zero hf] at HC
  have HC2 : Hid (Calls Tryz.prog 155 #[.slice (some ⟨b, off, none⟩) len cap] w fun e w' => e = .returned .nilIface ∧ Below w.heap.size w w') := HC.mono fun e w' ⟨v, he, hi, hb⟩ => by
    rcases hi with ⟨_, hv⟩ | ⟨hn, _⟩
    · exact ⟨by rw [he, hv]; rfl, hb⟩
    · simp at hn
  clear HC
  obtain ⟨_, b', off', ha, hb, hcell⟩ := (R.split).resolve_left (by omega)
  cases ha
  have Hc := Lib.hid hcell; clear hcell
  have HB := Lib.hid B; clear B
  have HF := Lib.hid hf; clear hf
  have HR := Lib.hid R; clear R
  obtain ⟨z1, z2⟩ := Hc.out 0 (by omega)
  simp only [Nat.zero_mul, Nat.add_zero] at z1 z2
  have hln : (0 : Int) < (len : Int) := by omega
  have i1 : (0 : Int) ≤ (len : Int) - 1 := by omega
  have i2 : (len : Int) - 1 ≤ (cap : Int) := by omega
  have i3 : (len : Int) - 1 < (len : Int) := by omega
  have e1 : ((len : Int) - 1).toNat = len - 1 := by omega
  obtain ⟨p0, hp0⟩ : ∃ p0, p0 = l.getD 0 (0, 0) := ⟨_, rfl⟩
  rw [← hp0] at z1 z2
  have Hp0 := Lib.hid hp0; clear hp0
  by_cases hx0 : x < p0.1
  · have HV : Hid (bendV l x = p0.2) := (by unfold bendV; rw [← Hp0.out, if_pos hx0] : bendV l x = p0.2)
    go_enter Tryz.func93, Tryz.ntmps93
    go_wp2_with (go_at_call 155; refine HC2.out.mono ?_; rintro e w1 ⟨rfl, hb1⟩; rw [← hb1.cell (p := ⟨b, off, none⟩) hb] at z1; rw [← hb1.cell (p := ⟨b, off + 1, none⟩) hb] at z2)
    go_ret2
    exact bend_close HF.out h0 h1 HV.out hb1
  · have HV : Hid (bendV l x = bendGo (l.drop 0) x) := (by unfold bendV; rw [← Hp0.out, if_neg hx0]; rfl : bendV l x = bendGo (l.drop 0) x)
    go_enter Tryz.func93, Tryz.ntmps93
    go_wp2_with (go_at_call 155; refine HC2.out.mono ?_; rintro e w1 ⟨rfl, hb1⟩; rw [← hb1.cell (p := ⟨b, off, none⟩) hb] at z1; rw [← hb1.cell (p := ⟨b, off + 1, none⟩) hb] at z2)
    have Hb1 := Lib.hid hb1
    go_loopw [38] (fun i wr => ∃ k : Nat, k + 1 ≤ len ∧ i = .int .i64 k ∧ Below w.heap.size w wr ∧ bendV l x = bendGo (l.drop k) x) (fun i _ => len - (intOf i).toNat)
    case atStart => exact ⟨0, by omega, rfl, Hb1.out, HV.out⟩
    case round =>
      obtain ⟨k, hk, rfl, hbel, hv⟩ := hrel
      have Hv := Lib.hid hv; clear hv
      have Hbel := Lib.hid hbel; clear hbel
      have hbs : b < wr.heap.size := Nat.lt_of_lt_of_le hb Hbel.out.size
      have carry : ∀ o, wr.cell? ⟨b, o, none⟩ = w.cell? ⟨b, o, none⟩ := fun o => Hbel.out.cell (p := ⟨b, o, none⟩) hb
      have Hcarry := Lib.hid carry; clear carry
      by_cases hlt : k + 1 < len
      · obtain ⟨c1, c2⟩ := Hc.out k (by omega)
        obtain ⟨d1, d2⟩ := Hc.out (k + 1) hlt
        rw [← Hcarry.out] at c1 c2 d1 d2
        have HX := Lib.hid (bendGo_here (l := l) (k := k) (x := x) (by rw [HR.out.size]; exact hlt))
        have HY := Lib.hid (bendGo_step (l := l) (k := k) (x := x) (by rw [HR.out.size]; exact hlt))
        have gp := HB.out.good k (by rw [HR.out.size]; omega)
        have gq := HB.out.good (k + 1) (by rw [HR.out.size]; omega)
        have hr := HB.out.rise k (by rw [HR.out.size]; omega)
        obtain ⟨p, hp⟩ : ∃ p, p = l.getD k (0, 0) := ⟨_, rfl⟩
        obtain ⟨q, hq⟩ : ∃ q, q = l.getD (k + 1) (0, 0) := ⟨_, rfl⟩
        rw [← hp] at c1 c2 HX gp hr
        rw [← hq] at d1 d2 HX HY gq hr
        have hm := bend_mul gp gq h0 h1
        obtain ⟨px, py⟩ := p
        obtain ⟨qx, qy⟩ := q
        simp only [ptBad, not_or, Int.not_lt] at gp gq
        simp only at c1 c2 d1 d2 hr hm
        have Hp := Lib.hid hp; have Hq := Lib.hid hq
        clear hp hq
        obtain ⟨gp1, gp2, gp3, gp4⟩ := gp
        obtain ⟨gq1, gq2, gq3, gq4⟩ := gq
        obtain ⟨hm1, hm2⟩ := hm
        have j1 : (k : Int) < (len : Int) - 1 := by omega
        have j2 : k < len - 1 := by omega
        have j3 : (k : Int) + 1 < (len : Int) := by omega
        have hmw : IntKind.i64.wrap ((qy - py) * (x - px)) = (qy - py) * (x - px) := IntWalk.i64_in _ ⟨by omega, by omega⟩
        by_cases hx : x < qx
        · have HZ := Lib.hid (HX.out hx)
          have hdw := part_down ((qy - py) * (x - px)) (qx - px)
          have Hdw := Lib.hid hdw; clear hdw
          have hq1 : 1 ≤ qx - px := by omega
          have hD1 : (-1000000000000 : Int) ≤ ((qy - py) * (x - px)) / (qx - px) ∧ ((qy - py) * (x - px)) / (qx - px) ≤ 1000000000000 := by
            have := Int.natAbs_ediv_le_natAbs ((qy - py) * (x - px)) (qx - px)
            omega
          obtain ⟨hD2, hD3⟩ := hD1
          obtain ⟨M, hM⟩ : ∃ M, M = (qy - py) * (x - px) := ⟨_, rfl⟩
          rw [← hM] at hmw hm1 hm2 hD2 hD3 Hdw HZ
          have hMe : (qy - py) * (x - px) = M := hM.symm
          clear hM
          go_wp2_with fail
          go_quiet ((go_at_call 156; exact Calls.quiet_of_same ((Hdw.out _ hq1 hm1 hm2).mono fun _ _ ⟨a, b⟩ => ⟨a, b.symm⟩)))
          go_wp2
          go_ret2
          exact bend_close HF.out h0 h1 (n := py + M / (qx - px)) (by rw [Hv.out, HZ.out]) (((Hbel.out.alloc Hbel.out.size _).alloc (by have := Hbel.out.size; simp; omega) _).drewN _)
        · have HZ := Lib.hid (HY.out (by simpa using hx))
          go_wp2
          go_roundw
          case rel => exact ⟨k + 1, by omega, by go_num, (Hbel.out.alloc Hbel.out.size _).alloc (by have := Hbel.out.size; simp; omega) _, by rw [Hv.out, HZ.out]⟩
          case measure => simp [intOf]; omega
      · have hke : k + 1 = len := by omega
        have Hke := Lib.hid hke; clear hke
        obtain ⟨c1, c2⟩ := Hc.out k (by omega)
        rw [← Hcarry.out] at c1 c2
        have ek : len - 1 = k := by have := Hke.out; omega
        have HL := Lib.hid (bendGo_last (l := l) (k := k) (x := x) (by rw [HR.out.size]; exact Hke.out))
        have j1 : ¬ (k : Int) < (len : Int) - 1 := by have := Hke.out; omega
        go_wp2
        go_ret2
        exact bend_close HF.out h0 h1 (n := (l.getD k (0, 0)).2) (by rw [Hv.out, HL.out]) Hbel.out

end Go.Proofs.YtajnfkmkombajacGreatDoor
namespace Go.Proofs.YtajnfkmkombajacGreatDoor
open Go.RowKit

theorem issue_bend (w : World) : Calls Tryz.prog 94 #[] w fun e w' => e = .returned (.slice (some ⟨w.heap.size, 0, none⟩) 4 4) ∧ RdP w' (some ⟨w.heap.size, 0, none⟩) 4 4 rateL ∧ Below w.heap.size w w' := by
  go_enter Tryz.func94, Tryz.ntmps94
  go_wp2
  go_ret
  have hc : ∀ t o v, #[Value.int .i64 0, Value.int .i64 40000, Value.int .i64 250000, Value.int .i64 20000, Value.int .i64 500000, Value.int .i64 10000, Value.int .i64 1000000, Value.int .i64 5000][o]? = some v → (w.alloc (.cells #[Value.int .i64 0, Value.int .i64 40000, Value.int .i64 250000, Value.int .i64 20000, Value.int .i64 500000, Value.int .i64 10000, Value.int .i64 1000000, Value.int .i64 5000] t)).cell? ⟨w.heap.size, o, none⟩ = some v := fun t o v h => by
    rw [World.cell?_alloc_new]; exact h
  refine ⟨rfl, ⟨rfl, Nat.le_refl _, by decide, fun h => (by cases h), fun p hp => ?_, fun i hi => ⟨_, _, rfl, ?_, ?_⟩⟩, (Below.refl _ w).alloc (Nat.le_refl _) _⟩
  · simp only [rateL, List.mem_cons, List.not_mem_nil, or_false] at hp
    rcases hp with rfl | rfl | rfl | rfl <;> decide
  · have : i = 0 ∨ i = 1 ∨ i = 2 ∨ i = 3 := by omega
    rcases this with rfl | rfl | rfl | rfl <;> exact hc _ _ _ rfl
  · have : i = 0 ∨ i = 1 ∨ i = 2 ∨ i = 3 := by omega
    rcases this with rfl | rfl | rfl | rfl <;> exact hc _ _ _ rfl

theorem issue_look (A : Nat → Addr) (S : List Nat) (r b : Int) (w : World) (hE : Errs A S w) (h2 : 2 ∈ S) :
    Calls Tryz.prog 92 #[.int .i64 r, .int .i64 b] w fun e w' => e = .returned (ev A (rateC r b)) ∧ w = w' := by
  have g2 : w.cell? ⟨0, 0, none⟩ = some (.iface 386 (.pointer (some (A 2)))) := hE.cell 2 h2
  clear hE
  by_cases h : rateOk r b
  · have HC : Hid (rateC r b = 0) := (by unfold rateC; rw [if_pos h] : rateC r b = 0)
    obtain ⟨h0, h1, h3, h4⟩ := h
    go_enter Tryz.func92, Tryz.ntmps92
    go_wp2
    go_ret
    exact ⟨by rw [HC.out]; rfl, rfl⟩
  · have HC : Hid (rateC r b = 2) := (by unfold rateC; rw [if_neg h] : rateC r b = 2)
    by_cases c0 : r < 0
    · clear h
      go_enter Tryz.func92, Tryz.ntmps92
      go_wp2
      go_ret
      exact ⟨by rw [HC.out]; rfl, rfl⟩
    · by_cases c1 : 1000000 < r
      · clear h
        go_enter Tryz.func92, Tryz.ntmps92
        go_wp2
        go_ret
        exact ⟨by rw [HC.out]; rfl, rfl⟩
      · by_cases c2 : b < 0
        · clear h
          go_enter Tryz.func92, Tryz.ntmps92
          go_wp2
          go_ret
          exact ⟨by rw [HC.out]; rfl, rfl⟩
        · have c3 : 5000 < b := Int.not_le.1 fun hb => h ⟨by omega, by omega, by omega, hb⟩
          clear h
          go_enter Tryz.func92, Tryz.ntmps92
          go_wp2
          go_ret
          exact ⟨by rw [HC.out]; rfl, rfl⟩

theorem issue_Ratio (A : Nat → Addr) (S : List Nat) (s p : Int) (w : World) (hE : Errs A S w) (h2 : 2 ∈ S) :
    Calls Tryz.prog 36 #[.int .i64 s, .int .i64 p] w fun e w' => e = .returned (.tuple #[.int .i64 (ratioN s p), ev A (ratioC s p)]) ∧ Dr w w' := by
  have g2 : w.cell? ⟨0, 0, none⟩ = some (.iface 386 (.pointer (some (A 2)))) := hE.cell 2 h2
  have HE := Lib.hid hE; clear hE
  by_cases h : ratioOk s p
  · have HC : Hid (ratioC s p = 0) := (by unfold ratioC; rw [if_pos h] : ratioC s p = 0)
    have HN : Hid (ratioN s p = s * 1000000 / p) := (by unfold ratioN; rw [if_pos h] : ratioN s p = s * 1000000 / p)
    obtain ⟨y1, y2, _⟩ := over_yes (ratio_over h)
    have e1 : ev A (overC s 1000000 p) = .nilIface := by rw [y1]; rfl
    obtain ⟨h0, h1, h3, h4⟩ := h
    have a1 : amtB s = true := amtB_iff.2 (by omega)
    have a2 : amtB p = true := amtB_iff.2 (by omega)
    have hpe : (p == 0) = false := by simp; omega
    clear y1
    go_enter Tryz.func36, Tryz.ntmps36
    go_wp2_with (first
      | (go_at_call 90; refine (part_Amount _ _).mono ?_; rintro e w' ⟨rfl, rfl⟩)
      | (go_at_call 91; refine (part_Down A S _ _ _ _ HE.out h2).mono ?_; rintro e w' ⟨rfl, k, hk⟩; subst hk))
    go_ret2
    exact ⟨by rw [HC.out, HN.out]; rfl, k, rfl⟩
  · have HC : Hid (ratioC s p = 2) := (by unfold ratioC; rw [if_neg h] : ratioC s p = 2)
    have HN : Hid (ratioN s p = 0) := (by unfold ratioN; rw [if_neg h] : ratioN s p = 0)
    cases a1 : amtB s with
    | false =>
      clear h
      go_enter Tryz.func36, Tryz.ntmps36
      go_wp2_with (go_at_call 90; refine (part_Amount _ _).mono ?_; rintro e w' ⟨rfl, rfl⟩)
      go_quiet (fail)
      go_wp2
      go_ret2
      exact ⟨by rw [HC.out, HN.out]; rfl, _, rfl⟩
    | true =>
    cases a2 : amtB p with
    | false =>
      clear h
      go_enter Tryz.func36, Tryz.ntmps36
      go_wp2_with (go_at_call 90; refine (part_Amount _ _).mono ?_; rintro e w' ⟨rfl, rfl⟩)
      go_quiet (fail)
      go_wp2
      go_ret2
      exact ⟨by rw [HC.out, HN.out]; rfl, _, rfl⟩
    | true =>
    obtain ⟨s0, s1⟩ := amtB_iff.1 a1
    obtain ⟨p0, p1⟩ := amtB_iff.1 a2
    by_cases hp : p = 0
    · clear h
      subst hp
      go_enter Tryz.func36, Tryz.ntmps36
      go_wp2_with (go_at_call 90; refine (part_Amount _ _).mono ?_; rintro e w' ⟨rfl, rfl⟩)
      go_quiet (fail)
      go_wp2
      go_ret2
      exact ⟨by rw [HC.out, HN.out]; rfl, _, rfl⟩
    · have c3 : p < s := Int.not_le.1 fun hb => h ⟨by omega, by omega, by omega, by omega⟩
      have hpe : (p == 0) = false := by simp [hp]
      clear h hp
      go_enter Tryz.func36, Tryz.ntmps36
      go_wp2_with (go_at_call 90; refine (part_Amount _ _).mono ?_; rintro e w' ⟨rfl, rfl⟩)
      go_quiet (fail)
      go_wp2
      go_ret2
      exact ⟨by rw [HC.out, HN.out]; rfl, _, rfl⟩

theorem issue_Bonus (A : Nat → Addr) (S : List Nat) (b r : Int) (w : World) (hE : Errs A S w) (h2 : 2 ∈ S) :
    Calls Tryz.prog 162 #[.int .i64 b, .int .i64 r] w fun e w' => e = .returned (.tuple #[.int .i64 (bonusN b r), ev A (rateC r b)]) ∧ Dr w w' := by
  have HE := Lib.hid hE; clear hE
  by_cases h : rateOk r b
  · have HC : Hid (rateC r b = 0) := (by unfold rateC; rw [if_pos h] : rateC r b = 0)
    have HN : Hid (bonusN b r = if r < 480000 then min 5000 (b + 100) else if 520000 < r then max 0 (b - 100) else b) := (by unfold bonusN; rw [if_pos h] : bonusN b r = if r < 480000 then min 5000 (b + 100) else if 520000 < r then max 0 (b - 100) else b)
    have e1 : ev A (rateC r b) = .nilIface := by rw [HC.out]; rfl
    obtain ⟨h0, h1, h3, h4⟩ := h
    by_cases c1 : r < 480000
    · go_enter Tryz.func162, Tryz.ntmps162
      go_wp2_with (go_at_call 92; refine (issue_look A S _ _ _ HE.out h2).mono ?_; rintro e w' ⟨rfl, rfl⟩)
      go_ret2
      exact ⟨by rw [HC.out, HN.out]; simp [ev, *], Dr.refl _⟩
    · by_cases c2 : 520000 < r
      · go_enter Tryz.func162, Tryz.ntmps162
        go_wp2_with (go_at_call 92; refine (issue_look A S _ _ _ HE.out h2).mono ?_; rintro e w' ⟨rfl, rfl⟩)
        go_ret2
        exact ⟨by rw [HC.out, HN.out, if_neg (by omega), if_pos (by omega)]; rfl, Dr.refl _⟩
      · go_enter Tryz.func162, Tryz.ntmps162
        go_wp2_with (go_at_call 92; refine (issue_look A S _ _ _ HE.out h2).mono ?_; rintro e w' ⟨rfl, rfl⟩)
        go_ret2
        exact ⟨by rw [HC.out, HN.out, if_neg (by omega), if_neg (by omega)]; rfl, Dr.refl _⟩
  · have HC : Hid (rateC r b = 2) := (by unfold rateC; rw [if_neg h] : rateC r b = 2)
    have HN : Hid (bonusN b r = 0) := (by unfold bonusN; rw [if_neg h] : bonusN b r = 0)
    have e1 : ev A (rateC r b) = .iface 386 (.pointer (some (A 2))) := by rw [HC.out]; rfl
    clear h
    go_enter Tryz.func162, Tryz.ntmps162
    go_wp2_with (go_at_call 92; refine (issue_look A S _ _ _ HE.out h2).mono ?_; rintro e w' ⟨rfl, rfl⟩)
    go_ret2
    exact ⟨by rw [HC.out, HN.out]; rfl, Dr.refl _⟩

theorem issue_Rate (A : Nat → Addr) (S : List Nat) (r b : Int) (w : World) (hE : Errs A S w) (h2 : 2 ∈ S) (h3 : 3 ∈ S) :
    Calls Tryz.prog 38 #[.int .i64 r, .int .i64 b] w fun e w' => e = .returned (.tuple #[.int .i64 (rateN r b), ev A (rateC r b)]) ∧ Below w.heap.size w w' := by
  have HE := Lib.hid hE; clear hE
  by_cases h : rateOk r b
  · have HC : Hid (rateC r b = 0) := (by unfold rateC; rw [if_pos h] : rateC r b = 0)
    have HN : Hid (rateN r b = bendV rateL r + b) := (by unfold rateN; rw [if_pos h] : rateN r b = bendV rateL r + b)
    have e1 : ev A (rateC r b) = .nilIface := by rw [HC.out]; rfl
    obtain ⟨h0, h1, h4, h5⟩ := h
    obtain ⟨n0, n1⟩ := rateL_bounds h0 h1
    have HB : ∀ w' : World, Below w.heap.size w w' → RdP w' (some ⟨w.heap.size, 0, none⟩) 4 4 rateL → Calls Tryz.prog 93 #[.slice (some ⟨w.heap.size, 0, none⟩) 4 4, .int .i64 r] w' fun e w'' => e = .returned (.tuple #[.int .i64 (bendV rateL r), .nilIface]) ∧ Below w.heap.size w w'' := fun w' hb R =>
      (bend_ok A S _ _ _ _ _ r w' R (HE.out.below hb) h2 h3 rateL_right h0 h1).mono fun e w'' ⟨v, he, hv, hb'⟩ => by
        have e0 : bendF rateL r = (0, -1) := by unfold bendF; rw [if_neg (by simp [rateL_right]), if_neg (by omega)]
        rcases hv with ⟨_, hv⟩ | ⟨hv, _⟩
        · rw [e0] at hv he
          exact ⟨by rw [he, hv]; rfl, btrans hb hb'⟩
        · rw [e0] at hv; simp at hv
    have HB' := Lib.hid HB; clear HB
    generalize hn : bendV rateL r = n at *
    clear hn
    go_enter Tryz.func38, Tryz.ntmps38
    go_wp2_with (first
      | (go_at_call 92; refine (issue_look A S _ _ _ HE.out h2).mono ?_; rintro e w' ⟨rfl, rfl⟩)
      | (go_at_call 94; refine (issue_bend _).mono ?_; rintro e w' ⟨rfl, hR, hb⟩)
      | (go_at_call 93; refine (HB'.out _ hb hR).mono ?_; rintro e w'' ⟨rfl, hb2⟩))
    go_ret2
    exact ⟨by rw [HC.out, HN.out]; rfl, hb2⟩
  · have HC : Hid (rateC r b = 2) := (by unfold rateC; rw [if_neg h] : rateC r b = 2)
    have HN : Hid (rateN r b = 0) := (by unfold rateN; rw [if_neg h] : rateN r b = 0)
    have e1 : ev A (rateC r b) = .iface 386 (.pointer (some (A 2))) := by rw [HC.out]; rfl
    clear h
    go_enter Tryz.func38, Tryz.ntmps38
    go_wp2_with (go_at_call 92; refine (issue_look A S _ _ _ HE.out h2).mono ?_; rintro e w' ⟨rfl, rfl⟩)
    go_ret2
    exact ⟨by rw [HC.out, HN.out]; rfl, Below.refl _ _⟩

theorem issue_Reward (A : Nat → Addr) (S : List Nat) (s r : Int) (w : World) (hE : Errs A S w) (h2 : 2 ∈ S) :
    Calls Tryz.prog 40 #[.int .i64 s, .int .i64 r] w fun e w' => e = .returned (.tuple #[.int .i64 (rewardN s r), ev A (rewardC s r)]) ∧ Dr w w' := by
  have g2 : w.cell? ⟨0, 0, none⟩ = some (.iface 386 (.pointer (some (A 2)))) := hE.cell 2 h2
  have HE := Lib.hid hE; clear hE
  by_cases h : rewardOk s r
  · have HC : Hid (rewardC s r = 0) := (by unfold rewardC; rw [if_pos h] : rewardC s r = 0)
    have HN : Hid (rewardN s r = s * r / 1000000 / 4) := (by unfold rewardN; rw [if_pos h] : rewardN s r = s * r / 1000000 / 4)
    obtain ⟨y1, y2, _⟩ := over_yes (reward_over h)
    have e1 : ev A (overC s r 1000000) = .nilIface := by rw [y1]; rfl
    have q0 : 0 ≤ s * r / 1000000 := Int.ediv_nonneg (Int.mul_nonneg h.1.1 h.2.1) (by omega)
    have q1 : s * r / 1000000 ≤ 1125899906842624 := (reward_over h).2.2.2
    obtain ⟨⟨h0, h1⟩, h3, h4⟩ := h
    have a1 : amtB s = true := amtB_iff.2 (by omega)
    clear y1
    generalize s * r / 1000000 = q at *
    have hq : q.tdiv 4 = q / 4 := Int.tdiv_eq_ediv_of_nonneg q0
    go_enter Tryz.func40, Tryz.ntmps40
    go_wp2_with (first
      | (go_at_call 90; refine (part_Amount _ _).mono ?_; rintro e w' ⟨rfl, rfl⟩)
      | (go_at_call 91; refine (part_Down A S _ _ _ _ HE.out h2).mono ?_; rintro e w' ⟨rfl, k, hk⟩; subst hk))
    go_ret2
    exact ⟨by rw [HC.out, HN.out]; rfl, k, rfl⟩
  · have HC : Hid (rewardC s r = 2) := (by unfold rewardC; rw [if_neg h] : rewardC s r = 2)
    have HN : Hid (rewardN s r = 0) := (by unfold rewardN; rw [if_neg h] : rewardN s r = 0)
    cases a1 : amtB s with
    | false =>
      clear h
      go_enter Tryz.func40, Tryz.ntmps40
      go_wp2_with (go_at_call 90; refine (part_Amount _ _).mono ?_; rintro e w' ⟨rfl, rfl⟩)
      go_quiet (fail)
      go_wp2
      go_ret2
      exact ⟨by rw [HC.out, HN.out]; rfl, _, rfl⟩
    | true =>
    obtain ⟨s0, s1⟩ := amtB_iff.1 a1
    by_cases hp : r < 0
    · clear h
      go_enter Tryz.func40, Tryz.ntmps40
      go_wp2_with (go_at_call 90; refine (part_Amount _ _).mono ?_; rintro e w' ⟨rfl, rfl⟩)
      go_quiet (fail)
      go_wp2
      go_ret2
      exact ⟨by rw [HC.out, HN.out]; rfl, _, rfl⟩
    · have c3 : 1000000 < r := Int.not_le.1 fun hb => h ⟨by omega, by omega, by omega⟩
      clear h
      go_enter Tryz.func40, Tryz.ntmps40
      go_wp2_with (go_at_call 90; refine (part_Amount _ _).mono ?_; rintro e w' ⟨rfl, rfl⟩)
      go_quiet (fail)
      go_wp2
      go_ret2
      exact ⟨by rw [HC.out, HN.out]; rfl, _, rfl⟩
end Go.Proofs.YtajnfkmkombajacGreatDoor
