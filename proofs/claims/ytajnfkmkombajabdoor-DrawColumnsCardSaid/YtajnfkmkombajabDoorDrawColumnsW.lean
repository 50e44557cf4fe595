/- The walk of DrawColumns. -/
import Derived.Test.YtajnfkmkombajabDoorDrawJustW
import Derived.Test.YtajnfkmkombajabDoorRefDraw2
import Derived.Test.YtajnfkmkombajabDoorFaulted1
import Derived.Deep.QuietTactic
import Derived.BigQuiet
set_option linter.unusedVariables false
set_option linter.unusedSimpArgs false
namespace Go.Proofs.YtajnfkmkombajabDoor
open Go.RowKit

theorem weightsF_le (l : List Int) : (weightsF l).1 ≤ 10 ∧ ((weightsF l).2 ≠ -1 → (weightsF l).1 ≠ 0) := by
  unfold weightsF
  repeat' split
  all_goals simp
/-- both draws -/
structure DC (w0 : World) (b cb db lb ob : Nat) (zs : List Int) (w : World) : Prop where
  below : Below w0.heap.size w0 w
  d : DrawAt b cb zs w
  r : RDrawAt db lb ob zs w
theorem DC.next {w0 : World} {b cb db lb ob : Nat} {zs : List Int} {w w' : World} (h : DC w0 b cb db lb ob zs w) (k : Below w.heap.size w w') : DC w0 b cb db lb ob zs w' :=
  ⟨btrans h.below k, h.d.below k, h.r.below k⟩
theorem DC.drewN {w0 : World} {b cb db lb ob : Nat} {zs : List Int} {w : World} (h : DC w0 b cb db lb ob zs w) (n : Nat) : DC w0 b cb db lb ob zs (w.drewN n) := h.next ((Below.refl _ _).drewN n)

set_option maxRecDepth 8000 in
set_option maxHeartbeats 2000000 in
theorem columns_walk (A : Nat → Addr) (ao : Option Addr) (cap : Nat) (zs : List Int) (c a : Int) (w : World) (hS : Sents A w) (R : RdI .i64 w ao zs.length cap zs) (hl : zs.length ≤ 100) :
    Calls Tryd.prog 6 #[.slice ao zs.length cap, .int .i64 c, .int .i64 a] w fun e w' => e = .returned (.bool true) ∧ Below w.heap.size w w' := by
  have HS := Lib.hid hS; clear hS
  have HR := Lib.hid R; clear R
  have m2 : (2 : Nat) ∈ [1, 2, 3, 4, 5, 6, 7, 8, 9, 10] := by decide
  have m3 : (3 : Nat) ∈ [1, 2, 3, 4, 5, 6, 7, 8, 9, 10] := by decide
  have m4 : (4 : Nat) ∈ [1, 2, 3, 4, 5, 6, 7, 8, 9, 10] := by decide
  have d1 : decide ((100 : Int) < (zs.length : Int)) = false := by simp; omega
  have HNw := Lib.hid (fun aox capx wx hx ex => draw_New A _ aox capx zs wx hx ex m2 m3 m4)
  have HOwn := Lib.hid (fun wx hx => law_OwnInts ao zs.length cap zs wx hx (by omega))
  have HWF := Lib.hid (fun wx hx => ref_WeightsFault ao zs.length cap zs wx hx)
  have HRN := Lib.hid (fun wx hx hw => ref_NewDraw wx ao cap zs hx hw)
  have HCol := Lib.hid (fun b cb (k : Nat) wx hd => draw_Column_in b cb zs k wx hd)
  have HCo := Lib.hid (fun b cb k wx hd he hk => draw_Column_out A [1, 2, 3, 4, 5, 6, 7, 8, 9, 10] b cb zs k wx hd he m2 hk)
  have HPin := Lib.hid (fun b cb (k : Nat) wx hd => draw_Pick_in b cb zs k a wx hd)
  have HPo := Lib.hid (fun b cb wx hd hz he hk => draw_Pick_out A [1, 2, 3, 4, 5, 6, 7, 8, 9, 10] b cb zs c a wx hd hz he m2 hk)
  have HRP := Lib.hid (fun db lb ob (k : Nat) wx hd => refd_Pick db lb ob zs k a wx hd)
  have HHi := Lib.hid (fun b cb wx hd => draw_Height b cb zs wx hd)
  have HCs := Lib.hid (fun b cb wx hd => draw_Columns b cb zs wx hd)
  have HLE := Lib.hid (weightsF_le zs)
  have HRL := Lib.hid (fun db lb ob wx (h : RDrawAt db lb ob zs wx) => (⟨h.high, h.lcell, h.ocell⟩ : _ ∧ _ ∧ _))
  generalize hn : zs.length = n at *
  have Hn := Lib.hid hn; clear hn
  generalize hH : zs.sum = H at *
  have HH := Lib.hid hH; clear hH
  go_enter Tryd.func6, Tryd.ntmps6
  go_wp2_with fail
  refine (law_drawn A _ _ HS.out.errs m2 m3 m4).mono ?_
  rintro e w0 ⟨rfl, hb0⟩
  go_wp2_with fail
  refine (HOwn.out _ (HR.out.below hb0)).mono ?_
  rintro e w1 ⟨ao1, cap1, rfl, ho1, hb1⟩
  have hb01 := Lib.hid (btrans hb0 hb1)
  have HO1 := Lib.hid ho1; clear ho1 hb0 hb1
  go_wp2_with fail
  refine (HNw.out ao1 cap1 _ (RdI.of_own HO1.out) (HS.out.below hb01.out).errs).mono ?_
  rintro e w2 ⟨p, v, rfl, hv, hb2, hp⟩
  have hb02 := Lib.hid (btrans hb01.out hb2)
  have HV := Lib.hid hv
  have HP := Lib.hid hp
  clear hb2 hv hp
  go_wp2_with fail
  refine (HWF.out _ (HR.out.below hb02.out)).mono ?_
  rintro e w3 ⟨rfl, hb3⟩
  have hb03 := Lib.hid (btrans hb02.out hb3)
  have HB3 := Lib.hid hb3; clear hb3
  by_cases hf : (weightsF zs).1 = 0
  · obtain ⟨hwf, hl1, hl64, hz, hs1, hs2⟩ := weights_ok hf
    have HWOK := Lib.hid (show weightsOk zs from ⟨hl1, hl64, hz, hs1, hs2⟩)
    obtain ⟨b, cb, rfl, nb, nc, D⟩ : ∃ b cb, p = .pointer (some ⟨b, 0, none⟩) ∧ w1.heap.size ≤ b ∧ w1.heap.size ≤ cb ∧ DrawAt b cb zs w2 := by
      rcases HP.out with ⟨h, _⟩ | ⟨_, h⟩
      · exact absurd hf h
      · exact h
    have hv0 : v = .nilIface := HV.out.yes hf (by rw [hwf])
    subst hv0
    have HZ := Lib.hid (fun x hx => (hz x hx).1)
    rw [HH.out] at hs1 hs2
    rw [Hn.out] at hl1 hl64
    have HD := Lib.hid D
    rw [hwf]
    have hb4 := Lib.hid (show Below w3.heap.size w3 (w3.alloc (.cells #[.int .i64 0, .int .i64 (-1)] 72)) from (Below.refl _ _).alloc (Nat.le_refl _) _)
    have HR4 := Lib.hid (HR.out.below (btrans hb03.out hb4.out))
    have HB04 := Lib.hid (btrans hb03.out hb4.out)
    have HD4 := Lib.hid (D.below (btrans HB3.out hb4.out))
    clear hwf hf HV HP hz D
    go_wp2_with fail
    refine (HRN.out _ HR4.out HWOK.out).mono ?_
    rintro e w5 ⟨db, lb, ob, rfl, hb5, _, _, _, hr5⟩
    have M0 := Lib.hid (show DC w b cb db lb ob zs w5 from ⟨btrans HB04.out hb5, HD4.out.below hb5, hr5⟩)
    clear hb5 hr5 HR4 HB04 HD4
    obtain ⟨q1, q2, q3⟩ := HRL.out _ _ _ _ M0.out.r
    go_wp2_with fail
    go_quiet (first
      | (go_at_call 48; exact Calls.quiet_of_same ((HHi.out b cb _ (M0.out.d.drewN _)).mono fun _ _ ⟨x, y⟩ => ⟨x, y.symm⟩))
      | (go_at_call 49; exact Calls.quiet_of_same ((HCs.out b cb _ (M0.out.d.drewN _)).mono fun _ _ ⟨x, y⟩ => ⟨x, y.symm⟩)))
    go_wp2_with fail
    go_loopw [12] (fun i wr => ∃ k : Nat, k ≤ n ∧ i = .int .i64 k ∧ DC w b cb db lb ob zs wr) (fun i _ => n - (intOf i).toNat)
    case atStart => exact ⟨0, Nat.zero_le _, rfl, M0.out.drewN _⟩
    case round =>
      obtain ⟨k, hk, rfl, hM⟩ := hrel
      have M := Lib.hid hM; clear hM M0 q1 q2 q3
      by_cases hlt : k < n
      · obtain ⟨r1, r2, r3⟩ := HRL.out _ _ _ _ M.out.r
        have r4 := M.out.r.line HZ.out (k := k) (by rw [Hn.out]; exact hlt)
        have r5 := M.out.r.other HZ.out (k := k) (by rw [Hn.out]; exact hlt)
        have HC := Lib.hid (HCol.out b cb k _ M.out.d HZ.out hlt)
        generalize ((vose zs).getD k (0, 0)).1 = x at *
        generalize ((vose zs).getD k (0, 0)).2 = y at *
        go_wp2_with (go_at_call 50; refine HC.out.mono ?_; rintro e w' ⟨rfl, d, rfl⟩)
        go_roundw
        case rel => exact ⟨k + 1, by omega, by go_num, M.out.drewN _⟩
        case measure => simp [intOf]; omega
      · obtain rfl : k = n := by omega
        have HC := Lib.hid (HCo.out b cb (k : Int) _ M.out.d (HS.out.below M.out.below).errs (.inr (Int.le_refl _)))
        by_cases hin : 0 ≤ c ∧ c < (k : Int) ∧ 0 ≤ a ∧ a < H
        · obtain ⟨i1, i2, i3, i4⟩ := hin
          obtain ⟨j, rfl⟩ := Int.eq_ofNat_of_zero_le i1
          have hj : j < k := by omega
          have HPI := Lib.hid (fun wx hd => HPin.out b cb j wx hd HZ.out hj i3 i4)
          have HRPI := Lib.hid (fun wx hd => HRP.out db lb ob j wx hd HZ.out hj)
          have dd1 : decide (k ≤ j) = false := by simp; omega
          generalize pickOf (vose zs) j a = pk at *
          have hpp : (pk == pk) = true := beq_self_eq_true _
          go_wp2_with (go_at_call 50; refine HC.out.mono ?_; rintro e w' ⟨rfl, d, rfl⟩; have M1 := Lib.hid (M.out.drewN d))
          refine (HPI.out _ M1.out.d).mono ?_
          rintro e w' ⟨rfl, d2, rfl⟩
          have M2 := Lib.hid (M.out.drewN (d + d2))
          obtain ⟨r1, r2, r3⟩ := HRL.out _ _ _ _ M.out.r
          go_wp2_with (go_at_call 52; refine (HRPI.out _ M2.out.r).mono ?_; rintro e w' ⟨rfl, rfl⟩)
          refine (law1_coded A 2 (by decide) (wr.drewN (d + d2)) (HS.out.below M2.out.below)).mono ?_
          rintro e w6 ⟨rfl, hb6⟩
          have HB6 := Lib.hid (btrans M2.out.below hb6); clear hb6
          go_wp2_with fail
          go_ret
          exact ⟨rfl, HB6.out⟩
        · have HPX := Lib.hid (fun wx hd he => HPo.out b cb wx hd HZ.out he hin)
          have hcases : c < 0 ∨ (decide (c < 0) = false ∧ decide ((k : Int) ≤ c) = true) ∨ (decide (c < 0) = false ∧ decide ((k : Int) ≤ c) = false ∧ a < 0) ∨ (decide (c < 0) = false ∧ decide ((k : Int) ≤ c) = false ∧ decide (a < 0) = false ∧ decide (H ≤ a) = true) := by
            simp only [decide_eq_false_iff_not, decide_eq_true_eq]; omega
          clear hin
          obtain ⟨r1, r2, r3⟩ := HRL.out _ _ _ _ M.out.r
          rcases hcases with h | ⟨h, h'⟩ | ⟨h, h', h''⟩ | ⟨h, h', h'', h3⟩
          all_goals
            go_wp2_with (go_at_call 50; refine HC.out.mono ?_; rintro e w' ⟨rfl, d, rfl⟩; have M1 := Lib.hid (M.out.drewN d))
            refine (HPX.out _ M1.out.d (HS.out.below M1.out.below).errs).mono ?_
            rintro e w' ⟨rfl, d2, rfl⟩
            have M2 := Lib.hid (M.out.drewN (d + d2))
            go_wp2_with fail
            refine (law1_coded A 2 (by decide) (wr.drewN (d + d2)) (HS.out.below M2.out.below)).mono ?_
            rintro e w6 ⟨rfl, hb6⟩
            have M3 := Lib.hid (M2.out.next hb6); clear hb6
            go_wp2_with fail
            refine (law1_coded A 2 (by decide) _ (HS.out.below M3.out.below)).mono ?_
            rintro e w7 ⟨rfl, hb7⟩
            have M4 := Lib.hid (M3.out.next hb7); clear hb7
            go_wp2_with fail
            go_ret
            exact ⟨rfl, M4.out.below⟩
  · have hpn : p = .pointer none := by
      rcases HP.out with ⟨_, h⟩ | ⟨h, _⟩
      · exact h
      · exact absurd h hf
    subst hpn
    have e2 : decide (0 < (weightsF zs).1) = true := by simp; omega
    have e3 : decide ((0 : Int) < ((weightsF zs).1 : Int)) = true := by simp; omega
    have HB4 := Lib.hid (show Below w3.heap.size w3 (w3.alloc (.cells #[.int .i64 (weightsF zs).1, .int .i64 (weightsF zs).2] 72)) from (Below.refl _ _).alloc (Nat.le_refl _) _)
    have HV4 := Lib.hid ((HV.out.since (w0 := w) hb01.out.size).later (w2 := w3.alloc (.cells #[.int .i64 (weightsF zs).1, .int .i64 (weightsF zs).2] 72)) fun b o _ hb => (btrans HB3.out HB4.out).cell (p := ⟨b, o, none⟩) hb)
    have HB04 := Lib.hid (btrans hb03.out HB4.out)
    clear hf HP HV
    go_wp2_with fail
    refine (law1_faulted A v (weightsF zs) w _ (HS.out.below HB04.out) HV4.out HLE.out.1 HLE.out.2).mono ?_
    rintro e w5 ⟨rfl, hb5⟩
    have HB5 := Lib.hid (btrans HB04.out hb5); clear hb5
    go_wp2_with fail
    go_ret
    exact ⟨rfl, HB5.out⟩

theorem columns_all (A : Nat → Addr) (ao : Option Addr) (len cap : Nat) (zs : List Int) (c a : Int) (w : World) (hS : Sents A w) (R : RdI .i64 w ao len cap zs) :
    Calls Tryd.prog 6 #[.slice ao len cap, .int .i64 c, .int .i64 a] w fun e w' => e = .returned (.bool true) ∧ Below w.heap.size w w' := by
  by_cases hl : len ≤ 100
  · have := R.size
    subst this
    exact columns_walk A ao cap zs c a w hS R hl
  · have HS := Lib.hid hS; clear hS R
    have m2 : (2 : Nat) ∈ [1, 2, 3, 4, 5, 6, 7, 8, 9, 10] := by decide
    have m3 : (3 : Nat) ∈ [1, 2, 3, 4, 5, 6, 7, 8, 9, 10] := by decide
    have m4 : (4 : Nat) ∈ [1, 2, 3, 4, 5, 6, 7, 8, 9, 10] := by decide
    have d1 : decide ((100 : Int) < (len : Int)) = true := by simp; omega
    clear hl
    go_enter Tryd.func6, Tryd.ntmps6
    go_wp2_with fail
    refine (law_drawn A _ _ HS.out.errs m2 m3 m4).mono ?_
    rintro e w0 ⟨rfl, hb0⟩
    go_wp2_with fail
    go_ret
    exact ⟨rfl, hb0⟩
end Go.Proofs.YtajnfkmkombajabDoor
