/- The walk of StakeWaits. -/
import Derived.Test.YtajnfkmkombajacDoorStake12
import Derived.Test.YtajnfkmkombajacDoorCoded2
import Derived.Test.YtajnfkmkombajacDoorSents
import Derived.Test.YtajnfkmkombajacDoorPlWaits
import Derived.Deep.RegionWith
import Derived.Deep.RegionHeld3
import Derived.Deep.DeepCutAuto
import Derived.Deep.CutBlock
import Derived.Deep.LoopGhost
import Derived.Deep.QuietTactic
import Derived.BigQuiet
set_option linter.unusedVariables false
set_option linter.unusedSimpArgs false
namespace Go.Proofs.YtajnfkmkombajacDoor
open Go.RowKit Go.Maps

theorem ww_total (t k t2 k2 c : Int) : (ww (qq t k) (qq t2 k2) c).total = t + t2 := by
  unfold ww SS.total; simp [optT, qq]
theorem ww_value {t k : Int} (W : QS) (c : Int) (h0 : 0 ≤ t) (h1 : t ≤ 1125899906842624) (k0 : 0 ≤ k) (k1 : k ≤ 1125899906842624) (hz : k = 0 → t = 0) : (ww (qq t k) W c).value 2 0 = t := by
  show (qq t k).value 2 = t
  rw [qq_value h0 h1 k0 k1]
  split
  · next h => exact (hz h).symm
  · rfl
theorem ww_waits {t : Int} (P : QS) (c : Int) (h0 : 1 ≤ t) (h1 : t ≤ 1125899906842624) : (ww P (qq t t) c).waits 2 0 c = t := by
  unfold SS.waits; rw [ww_find]
  show (qq t t).value 2 = t
  rw [qq_value (by omega) h1 (by omega) h1, if_neg (by omega)]
theorem ww_len (P W : QS) (c : Int) : (ww P W c).W.length = 1 := rfl

set_option maxRecDepth 8000 in
set_option maxHeartbeats 2000000 in
/-- good numbers: N stays, t waits; a is lost of what stays, b of what waits -/
theorem waits_good (A : Nat → Addr) (n t c p f N M a M2 b : Int) (w : World) (hS : Sents A w) (n2 : n ≤ 1099511627776) (t1 : 1 ≤ t) (t2 : t ≤ n) (c0 : 0 ≤ c) (c1 : c ≤ 1000) (p0 : 0 ≤ p) (p1 : p ≤ 100)
    (hN : n - t = N) (hM : N * p = M) (ha : M.tdiv 100 = a) (hM2 : t * p = M2) (hb : M2.tdiv 100 = b) (M0 : 0 ≤ M) (M1 : M ≤ 9223372036854775807) (M3 : 0 ≤ M2) (M4 : M2 ≤ 9223372036854775807)
    (a0 : 0 ≤ a) (a1 : a ≤ N) (b0 : 0 ≤ b) (b1 : b ≤ t)
    (hs : (ww (qq N N) (qq t t) c).slashOp 0 f p = (a + (if f ≤ c then b else 0), 0, ww (qq (N - a) N) (if f ≤ c then qq (t - b) t else qq t t) c)) :
    Calls Tryd.prog 3 #[.int .i64 n, .int .i64 t, .int .i64 c, .int .i64 p, .int .i64 f] w fun e w' => e = .returned (.bool true) ∧ Below w.heap.size w w' := by
  have HS := Lib.hid hS; clear hS
  have m2 : (2 : Nat) ∈ [1, 2, 3, 4, 5, 6, 7, 8, 9, 10] := by decide
  have m4 : (4 : Nat) ∈ [1, 2, 3, 4, 5, 6, 7, 8, 9, 10] := by decide
  have m5 : (5 : Nat) ∈ [1, 2, 3, 4, 5, 6, 7, 8, 9, 10] := by decide
  have m6 : (6 : Nat) ∈ [1, 2, 3, 4, 5, 6, 7, 8, 9, 10] := by decide
  have m7 : (7 : Nat) ∈ [1, 2, 3, 4, 5, 6, 7, 8, 9, 10] := by decide
  have m8 : (8 : Nat) ∈ [1, 2, 3, 4, 5, 6, 7, 8, 9, 10] := by decide
  have F1 := Lib.hid ww_reg
  have F2 := Lib.hid (ww_join (n := n) (by omega) (by omega))
  have F3 := Lib.hid (show (SS.mk [some (qq n n), none, none] []).leaveOp 2 0 t c = (0, ww (qq N N) (qq t t) c) by rw [← hN]; exact ww_leave t1 t2 (by omega) c0 c1)
  have F4 := Lib.hid (fun d (h : c ≤ d) (h2 : d ≤ c + 2) => ww_free_no (P := qq N N) (W := qq t t) c0 h h2 c1)
  have F5 := Lib.hid (ww_waits (t := t) (qq N N) c t1 (by omega))
  have x1 : decide (n < 1) = false := by simp; omega
  have x2 : decide ((1099511627776 : Int) < n) = false := by simp; omega
  have x3 : decide (t < 1) = false := by simp; omega
  have x4 : decide (n < t) = false := by simp; omega
  have x5 : decide (c < 0) = false := by simp; omega
  have x6 : decide ((1000 : Int) < c) = false := by simp; omega
  have x7 : decide (p < 0) = false := by simp; omega
  have x8 : decide ((100 : Int) < p) = false := by simp; omega
  have hcw : (Lit.int .i64 c).wf = true := WalkArith.wf_i64 (by omega)
  go_enter Tryd.func3, Tryd.ntmps3
  go_wp2_with fail
  refine (law_staked A _ _ HS.out.errs m2 m4 m5 m6 m7 m8).mono ?_
  rintro e w0 ⟨rfl, hb0⟩
  go_wp2_with fail
  refine (stake_New _).mono ?_
  rintro e w1 ⟨rfl, hb1, hs1⟩
  have U1 := Lib.hid (show SU w w0.heap.size (fun k => k = w0.heap.size) 0 SS.new w1 from ⟨btrans hb0 hb1, hs1, fun b hb => by rw [hb]; exact hb0.size⟩)
  clear hb1 hs1 hb0
  generalize w0.heap.size = sb at *
  go_wp2_with fail
  refine (stake_Register A [1, 2, 3, 4, 5, 6, 7, 8, 9, 10] sb _ 0 SS.new 0 _ U1.out.st (HS.out.below U1.out.below).errs m2 m5).mono ?_
  rintro e w2 ⟨rfl, h⟩
  rw [F1.out] at h ⊢
  simp only [ev_nil]
  have U2 := Lib.hid (U1.out.of h); clear h U1
  go_wp2_with fail
  refine (stake_Join A [1, 2, 3, 4, 5, 6, 7, 8, 9, 10] sb _ 0 _ 2 0 n _ U2.out.st (HS.out.below U2.out.below).errs m2 m4 m7 m8 (by unfold maxLen; omega)).mono ?_
  rintro e w3 ⟨rfl, h⟩
  rw [F2.out] at h ⊢
  simp only [ev_nil]
  have U3 := Lib.hid (U2.out.of h); clear h U2
  go_wp2_with fail
  refine (stake_Leave A [1, 2, 3, 4, 5, 6, 7, 8, 9, 10] sb _ 1 _ 2 0 t c _ U3.out.st (HS.out.below U3.out.below).errs m2 m4 m6 m7 m8 (by unfold maxLen; omega) hcw).mono ?_
  rintro e w4 ⟨rfl, h⟩
  rw [F3.out] at h ⊢
  simp only [ev_nil]
  have U4 := Lib.hid (U3.out.of h); clear h U3
  clear F1 F2 F3
  go_wp2_with fail
  go_loopg [13] 3 (fun g s wr => ∃ (k m : Nat) (F : Nat → Prop), SU w sb F m (ww (qq N N) (qq t t) c) wr ∧ s = .int .i64 (c + k) ∧ g + k = 3 ∧ m ≤ 10 + k)
  case atStart => exact ⟨0, 3, _, U4.out, by go_num, rfl, by omega⟩
  case round =>
    clear U4
    obtain ⟨k, m, F, hU, rfl, hg, hm⟩ := hrel
    by_cases hlt : k < 3
    · obtain ⟨x, hx⟩ : ∃ x : Int, c + k = x := ⟨_, rfl⟩
      rw [hx]
      have y1 : c ≤ x := by omega
      have y2 : x ≤ c + 2 := by omega
      have HG := Lib.hid (And.intro hg (And.intro hx hm)); clear hg hm hx
      have HU := Lib.hid hU; clear hU
      have hz0 : m < maxLen := by have := HG.out.2.2; unfold maxLen; omega
      have HFE := Lib.hid (HU.out.fe (HS.out.errs (w := w)))
      have HQ := Lib.hid (stake_Free A [1, 2, 3, 4, 5, 6, 7, 8, 9, 10] sb m F (ww (qq N N) (qq t t) c) 2 x _ HU.out.st (HS.out.below HU.out.below).errs m2 m4 HFE.out (by rw [ww_len]; omega) (by rw [ww_len]; have := HG.out.2.2; unfold maxLen; omega))
      rw [F4.out x y1 y2] at HQ
      clear hz0
      go_wp2_with fail
      refine HQ.out.mono ?_
      rintro e w5 ⟨rfl, h⟩
      have U5 := Lib.hid (HU.out.of h); clear h
      go_wp2_with fail
      refine (law2_coded A 4 (by decide) _ (HS.out.below U5.out.below)).mono ?_
      rintro e w6 ⟨rfl, hb6⟩
      have U6 := Lib.hid (U5.out.next hb6); clear hb6
      have HW := Lib.hid (st_Waits A [1, 2, 3, 4, 5, 6, 7, 8, 9, 10] 2 0 c U6.out.st (HS.out.below U6.out.below).errs m2 (by decide) hcw)
      rw [F5.out] at HW
      have tt : (t != t) = false := bne_self_eq_false _
      go_wp2_with fail
      refine HW.out.mono ?_
      rintro e w7 ⟨rfl, d, rfl⟩
      go_wp2_with fail
      have hx := HG.out.2.1
      have hg := HG.out.1
      have hm := HG.out.2.2
      go_roundg (3 - (k + 1))
      case measure => omega
      case rel => exact ⟨k + 1, m + 1, _, U6.out.drewN d, by go_num, by omega, by omega⟩
    · have HU := Lib.hid hU; clear hU
      have hk : k = 3 := by omega
      subst hk
      have HM := Lib.hid hm; clear hm hg hlt
      have HFE := Lib.hid (HU.out.fe (HS.out.errs (w := w)))
      have HQ := Lib.hid (stake_Slash A [1, 2, 3, 4, 5, 6, 7, 8, 9, 10] sb m F (ww (qq N N) (qq t t) c) 0 f p _ HU.out.st (HS.out.below HU.out.below).errs m2 m4 HFE.out (by rw [ww_len]; omega) (by have := HM.out; omega))
      rw [hs] at HQ
      have FT := Lib.hid (show (ww (qq (N - a) N) (qq 0 0) c).total = N - a by rw [ww_total]; omega)
      have FV := Lib.hid (ww_value (t := N - a) (k := N) (qq 0 0) c (by omega) (by omega) (by omega) (by omega) (by omega))
      by_cases hf : f ≤ c
      · simp only [if_pos hf] at HQ
        have hfd : decide (f ≤ c) = true := by simp; omega
        have FR := Lib.hid (fun d (h : d = c + 3) => show (ww (qq (N - a) N) (qq (t - b) t) c).freeOp 2 d = (t - b, 0, ww (qq (N - a) N) (qq 0 0) c) by rw [h]; exact ww_free_yes (P := qq (N - a) N) (c := c) (t := t - b) (k := t) c0 c1 (by omega) (by omega) t1 (by omega))
        have HQ3 := Lib.hid (fun (F : Nat → Prop) wx (h : StakesAt sb F m (ww (qq (N - a) N) (qq (t - b) t) c) wx) (hE : Errs A [1, 2, 3, 4, 5, 6, 7, 8, 9, 10] wx) (hFE : ∀ c ∈ [1, 2, 3, 4, 5, 6, 7, 8, 9, 10], ¬ F (gE c)) d (hd : d = c + 3) => by
          have := stake_Free A [1, 2, 3, 4, 5, 6, 7, 8, 9, 10] sb m F (ww (qq (N - a) N) (qq (t - b) t) c) 2 d wx h hE m2 m4 hFE (by rw [ww_len]; omega) (by rw [ww_len]; have := HM.out; unfold maxLen; omega)
          rw [FR.out d hd] at this
          exact this)
        go_wp2_with fail
        refine HQ.out.mono ?_
        rintro e w5 ⟨rfl, h⟩
        simp only [ev_nil]
        have U5 := Lib.hid (HU.out.of h); clear h HQ
        have HF5 := Lib.hid (U5.out.fe (HS.out.errs (w := w)))
        have ee1 : (a + b == a + b) = true := beq_self_eq_true _
        have ee2 : (a == a) = true := beq_self_eq_true _
        have ee3 : (t - b == t - b) = true := beq_self_eq_true _
        have ee4 : (t == t) = true := beq_self_eq_true _
        have ee5 : (N - a == N - a) = true := beq_self_eq_true _
        go_wp2_with fail
        refine (HQ3.out _ _ U5.out.st (HS.out.below U5.out.below).errs HF5.out _ (by omega)).mono ?_
        rintro e w6 ⟨rfl, h⟩
        simp only [ev_nil]
        have U6 := Lib.hid (U5.out.of h); clear h HQ3
        go_wp2_with fail
        refine (st_Total U6.out.st (by rw [ww_len]; omega)).mono ?_
        rintro e w7 ⟨rfl, h⟩
        rw [FT.out]
        have U7 := Lib.hid (U6.out.next h); clear h
        go_wp2_with fail
        refine (st_Value A [1, 2, 3, 4, 5, 6, 7, 8, 9, 10] 2 0 U7.out.st (HS.out.below U7.out.below).errs m2 (by decide)).mono ?_
        rintro e w8 ⟨rfl, d, rfl⟩
        rw [FV.out]
        have U8 := Lib.hid (U7.out.drewN d)
        go_wp2_with fail
        refine (st_Total U8.out.st (by rw [ww_len]; omega)).mono ?_
        rintro e w9 ⟨rfl, h⟩
        rw [FT.out]
        have U9 := Lib.hid (U8.out.next h); clear h
        go_wp2_with fail
        go_ret
        exact ⟨rfl, U9.out.below⟩
      · simp only [if_neg hf, Int.add_zero] at HQ
        have hfd : decide (f ≤ c) = false := by simp; omega
        have FR := Lib.hid (fun d (h : d = c + 3) => show (ww (qq (N - a) N) (qq t t) c).freeOp 2 d = (t, 0, ww (qq (N - a) N) (qq 0 0) c) by rw [h]; exact ww_free_yes (P := qq (N - a) N) (c := c) (t := t) (k := t) c0 c1 (by omega) (by omega) t1 (by omega))
        have HQ3 := Lib.hid (fun (F : Nat → Prop) wx (h : StakesAt sb F m (ww (qq (N - a) N) (qq t t) c) wx) (hE : Errs A [1, 2, 3, 4, 5, 6, 7, 8, 9, 10] wx) (hFE : ∀ c ∈ [1, 2, 3, 4, 5, 6, 7, 8, 9, 10], ¬ F (gE c)) d (hd : d = c + 3) => by
          have := stake_Free A [1, 2, 3, 4, 5, 6, 7, 8, 9, 10] sb m F (ww (qq (N - a) N) (qq t t) c) 2 d wx h hE m2 m4 hFE (by rw [ww_len]; omega) (by rw [ww_len]; have := HM.out; unfold maxLen; omega)
          rw [FR.out d hd] at this
          exact this)
        go_wp2_with fail
        refine HQ.out.mono ?_
        rintro e w5 ⟨rfl, h⟩
        simp only [ev_nil]
        have U5 := Lib.hid (HU.out.of h); clear h HQ
        have HF5 := Lib.hid (U5.out.fe (HS.out.errs (w := w)))
        have ee1 : (a + b == a + b) = true := beq_self_eq_true _
        have ee2 : (a == a) = true := beq_self_eq_true _
        have ee3 : (t - b == t - b) = true := beq_self_eq_true _
        have ee4 : (t == t) = true := beq_self_eq_true _
        have ee5 : (N - a == N - a) = true := beq_self_eq_true _
        go_wp2_with fail
        refine (HQ3.out _ _ U5.out.st (HS.out.below U5.out.below).errs HF5.out _ (by omega)).mono ?_
        rintro e w6 ⟨rfl, h⟩
        simp only [ev_nil]
        have U6 := Lib.hid (U5.out.of h); clear h HQ3
        go_wp2_with fail
        refine (st_Total U6.out.st (by rw [ww_len]; omega)).mono ?_
        rintro e w7 ⟨rfl, h⟩
        rw [FT.out]
        have U7 := Lib.hid (U6.out.next h); clear h
        go_wp2_with fail
        refine (st_Value A [1, 2, 3, 4, 5, 6, 7, 8, 9, 10] 2 0 U7.out.st (HS.out.below U7.out.below).errs m2 (by decide)).mono ?_
        rintro e w8 ⟨rfl, d, rfl⟩
        rw [FV.out]
        have U8 := Lib.hid (U7.out.drewN d)
        go_wp2_with fail
        refine (st_Total U8.out.st (by rw [ww_len]; omega)).mono ?_
        rintro e w9 ⟨rfl, h⟩
        rw [FT.out]
        have U9 := Lib.hid (U8.out.next h); clear h
        go_wp2_with fail
        go_ret
        exact ⟨rfl, U9.out.below⟩

set_option maxRecDepth 8000 in
theorem waits_all (A : Nat → Addr) (n t c p f : Int) (w : World) (hS : Sents A w) :
    Calls Tryd.prog 3 #[.int .i64 n, .int .i64 t, .int .i64 c, .int .i64 p, .int .i64 f] w fun e w' => e = .returned (.bool true) ∧ Below w.heap.size w w' := by
  by_cases hg : 1 ≤ n ∧ n ≤ 1099511627776 ∧ 1 ≤ t ∧ t ≤ n
  · obtain ⟨n1, n2, t1, t2⟩ := hg
    by_cases hc : 0 ≤ c ∧ c ≤ 1000 ∧ 0 ≤ p ∧ p ≤ 100
    · obtain ⟨c0, c1, p0, p1⟩ := hc
      have q1 : 0 ≤ (n - t) * p := Int.mul_nonneg (by omega) p0
      have q2 : (n - t) * p ≤ 1099511627776 * 100 := Int.mul_le_mul (by omega) p1 p0 (by omega)
      have q3 : 0 ≤ t * p := Int.mul_nonneg (by omega) p0
      have q4 : t * p ≤ 1099511627776 * 100 := Int.mul_le_mul (by omega) p1 p0 (by omega)
      have s1 := slash_bd (show 0 ≤ n - t by omega) p0 p1
      have s2 := slash_bd (show 0 ≤ t by omega) p0 p1
      have e1 : ((n - t) * p).tdiv 100 = (n - t) * p / 100 := Int.tdiv_eq_ediv_of_nonneg q1
      have e2 : (t * p).tdiv 100 = t * p / 100 := Int.tdiv_eq_ediv_of_nonneg q3
      refine waits_good A n t c p f (n - t) _ _ _ _ w hS n2 t1 t2 c0 c1 p0 p1 rfl rfl e1 rfl e2 q1 (by omega) q3 (by omega) s1.1 s1.2 s2.1 s2.2 ?_
      rw [ww_slash p0 p1]
    · have hcases : c < 0 ∨ (0 ≤ c ∧ 1000 < c) ∨ (0 ≤ c ∧ c ≤ 1000 ∧ p < 0) ∨ (0 ≤ c ∧ c ≤ 1000 ∧ 0 ≤ p ∧ 100 < p) := by omega
      have HS := Lib.hid hS; clear hS hc
      have x1 : decide (n < 1) = false := by simp; omega
      have x2 : decide ((1099511627776 : Int) < n) = false := by simp; omega
      have x3 : decide (t < 1) = false := by simp; omega
      have x4 : decide (n < t) = false := by simp; omega
      clear n1 n2 t1 t2
      rcases hcases with d1 | ⟨d1, d2⟩ | ⟨d1, d2, d3⟩ | ⟨d1, d2, d3, d4⟩
      all_goals
        go_enter Tryd.func3, Tryd.ntmps3
        go_wp2_with fail
        refine (law_staked A _ _ HS.out.errs (by decide) (by decide) (by decide) (by decide) (by decide) (by decide)).mono ?_
        rintro e w0 ⟨rfl, hb0⟩
        go_wp2_with fail
        go_ret
        exact ⟨rfl, hb0⟩
  · have hcases : n < 1 ∨ (1 ≤ n ∧ 1099511627776 < n) ∨ (1 ≤ n ∧ n ≤ 1099511627776 ∧ t < 1) ∨ (1 ≤ n ∧ n ≤ 1099511627776 ∧ 1 ≤ t ∧ n < t) := by omega
    have HS := Lib.hid hS; clear hS hg
    rcases hcases with d1 | ⟨d1, d2⟩ | ⟨d1, d2, d3⟩ | ⟨d1, d2, d3, d4⟩
    all_goals
      go_enter Tryd.func3, Tryd.ntmps3
      go_wp2_with fail
      refine (law_staked A _ _ HS.out.errs (by decide) (by decide) (by decide) (by decide) (by decide) (by decide)).mono ?_
      rintro e w0 ⟨rfl, hb0⟩
      go_wp2_with fail
      go_ret
      exact ⟨rfl, hb0⟩
end Go.Proofs.YtajnfkmkombajacDoor
