/-
  The walk of ChainRewards.
-/
import Derived.Test.YtajnfkmkombajacGreatDoorQCZ26
set_option linter.unusedVariables false
set_option linter.unusedSimpArgs false
set_option linter.unusedVariables false
namespace Go.Proofs.YtajnfkmkombajacGreatDoor
open Go.RowKit Go.Maps

/-- what the first k bakers hold -/
def stkK (s : SS) : Nat → Int
  | 0 => 0
  | k + 1 => stkK s k + s.staked k
theorem stkK_all (x : CS) : stkK x.s 3 = x.stakedAll := by
  show 0 + x.s.staked 0 + x.s.staked 1 + x.s.staked 2 = _
  unfold CS.stakedAll; omega
theorem stkK_bd {x : CS} (h : x.Inv) {k : Nat} (hk : k < 3) : 0 ≤ stkK x.s k ∧ 0 ≤ x.s.staked k ∧ stkK x.s k + x.s.staked k ≤ 1125899906842624 := by
  obtain ⟨q0, q1, q2, q3⟩ := SS.staked_bd h.s
  have hb := h.bal; have hm := h.p.most; have s0 := h.p.sum_bd
  match k, hk with
  | 0, _ => refine ⟨Int.le_refl _, q0, ?_⟩; show 0 + x.s.staked 0 ≤ _; omega
  | 1, _ => refine ⟨?_, q1, ?_⟩
            · show 0 ≤ 0 + x.s.staked 0; omega
            · show 0 + x.s.staked 0 + x.s.staked 1 ≤ _; omega
  | 2, _ => refine ⟨?_, q2, ?_⟩
            · show 0 ≤ 0 + x.s.staked 0 + x.s.staked 1; omega
            · show 0 + x.s.staked 0 + x.s.staked 1 + x.s.staked 2 ≤ _; omega
/-- a block's facts -/
structure RwF (x : CS) (sd : Nat) (r : Int) (N st yst : Int) (y : CS) : Prop where
  bake : x.bakeOp sd (x.turnV sd r) r = (N, 0, y)
  want : N = x.issues ∨ (N = 0 ∧ st = 0)
  stb : 0 ≤ st ∧ st ≤ 1125899906842624
  nb : 0 ≤ N ∧ N ≤ 1125899906842624
  ok : DoOk x N y
  pos : 1 ≤ y.p.supply
  les : N ≤ x.issues
  last : x.level % 4 ≠ 3 → yst = st + N
theorem rwF {t : Nat} {x : CS} (h : RewQ t x) (ht : t ≤ 400) (sd : Nat) (r : Int) (hc : x.turnC r = 0) :
    RwF x sd r (x.reward (x.turnV sd r)).1 (x.s.staked (x.turnV sd r)) ((x.reward (x.turnV sd r)).2.stepOp.s.staked (x.turnV sd r)) (x.reward (x.turnV sd r)).2.stepOp := by
  obtain ⟨t0, t3⟩ := turnV_bd h.inv sd r
  obtain ⟨f1, f2⟩ := CS.issues_fit h.inv ht h.top
  obtain ⟨l1, l2⟩ := CS.reward_law h.inv t0 t3 f2
  obtain ⟨i1, i2, i3, i4, i5⟩ := CS.reward_inv h.inv (x.turnV sd r)
  have hst : 0 ≤ x.s.staked (x.turnV sd r) ∧ x.s.staked (x.turnV sd r) ≤ 1125899906842624 := by
    obtain ⟨j, hj⟩ := Int.eq_ofNat_of_zero_le t0
    have := stkK_bd h.inv (k := j) (by omega)
    rw [hj]; omega
  have hlv := h.inv.lv
  refine ⟨?_, l1, hst, ⟨i2, CS.reward_most h.inv _⟩, CS.baked_ok h.inv _, CS.baked_pos h.inv _ h.pos, CS.reward_issues h.inv _, fun hl => ?_⟩
  · unfold CS.bakeOp; rw [if_neg (by simp [hc]), if_neg (by simp)]
  · rw [CS.step_staked _ (by rw [i5]; omega)]; exact l2

set_option maxRecDepth 8000 in
set_option maxHeartbeats 4000000 in
theorem rew_walk (A : Nat → Addr) (sd : Nat) (hs : sd < 18446744073709551616) (a0 : Option Addr) (len0 cap0 : Nat) (l0 : List ActC) (w : World) (S : List Nat) (hS : Errs A S w) (mS : ∀ c ∈ [2, 3, 4, 5, 6, 7, 8, 9, 10], c ∈ S) (R0 : RdR ActC.enc 9 w a0 len0 cap0 l0) (hwf : ∀ x ∈ l0, x.wf) (hl : len0 ≤ 120) :
    Calls Tryz.prog 5 #[.int .u64 sd, .slice a0 len0 cap0] w fun e w' => e = .returned (.bool true) ∧ Below w.heap.size w w' := by
  have HS := Lib.hid hS; clear hS
  have HR0 := Lib.hid R0; clear R0
  have HWF := Lib.hid hwf; clear hwf
  have m2 := mS 2 (by decide); have m3 := mS 3 (by decide); have m4 := mS 4 (by decide); have m5 := mS 5 (by decide); have m6 := mS 6 (by decide); have m7 := mS 7 (by decide); have m8 := mS 8 (by decide); have m9 := mS 9 (by decide)
  have HM := Lib.hid mS
  have d1 : decide ((120 : Int) < (len0 : Int)) = false := by simp; omega
  go_enter Tryz.func5, Tryz.ntmps5
  go_wp2_with fail
  refine (law_begun A S _ HS.out (fun c hc => HM.out c ((by decide : ∀ c ∈ [2, 3, 4, 5, 6, 7, 8, 9], c ∈ [2, 3, 4, 5, 6, 7, 8, 9, 10]) c hc))).mono ?_
  rintro e w0 ⟨rfl, hb0⟩
  clear mS
  have HB0 := Lib.hid hb0; clear hb0
  have HS0 := Lib.hid (HS.out.below HB0.out)
  go_wp2_with fail
  refine (chain_New A S sd _ HS0.out m2 m4 m5 m6 m7 m8).mono ?_
  rintro e w1 ⟨cb, K, rfl, g1⟩
  have H1 := Lib.hid g1.cn; clear g1
  go_wp2_with fail
  go_loopg [7] len0 (fun g i wr => ∃ (t n : Nat) (K : ChL) (x : CS), CN w0 cb K n sd x wr ∧ RewQ t x ∧ g + t = len0 ∧ i = .int .i64 t ∧ n ≤ 3 + 130 * t)
  case atStart => exact ⟨0, 3, K, CS.new, H1.out, RewQ.new, rfl, rfl, by decide⟩
  case round =>
    clear H1
    obtain ⟨t, n, K, x, hc, hx, hg, rfl, hbd⟩ := hrel
    have H := Lib.hid hc; have HX := Lib.hid hx; have HG := Lib.hid hg; have HBD := Lib.hid hbd; clear hc hx hg hbd
    by_cases hlt : t < len0
    · obtain ⟨a, ha⟩ : ∃ a, l0[t]? = some a := ⟨_, List.getElem?_eq_getElem (by rw [HR0.out.size]; exact hlt)⟩
      obtain ⟨bb, off, rfl, hbl, hcs⟩ := (HR0.out.below (btrans HB0.out H.out.below)).cells t a ha
      have haw := HWF.out a (List.mem_of_getElem? ha)
      have c0 := hcs 0 (by decide)
      have c1 := hcs 1 (by decide)
      have c2 := hcs 2 (by decide)
      have c3 := hcs 3 (by decide)
      have c4 := hcs 4 (by decide)
      have c5 := hcs 5 (by decide)
      have c6 := hcs 6 (by decide)
      have c7 := hcs 7 (by decide)
      have c8 := hcs 8 (by decide)
      simp only [ActC.enc, List.getElem?_cons_zero, List.getElem?_cons_succ, Nat.add_zero] at c0 c1 c2 c3 c4 c5 c6 c7 c8
      have HCS := Lib.hid (fun (wx : World) (k : Below wr.heap.size wr wx) => (k.cell (p := ⟨bb, off + t * 9 + 5, none⟩) hbl).trans c5)
      have HAW := Lib.hid haw; clear ha haw hcs
      have HW1 := Lib.hid HX.out.w; have HK1 := Lib.hid HX.out.k
      have hcyw : (Lit.int .i64 x.cycle).wf = true := WalkArith.wf_i64 (by have := HX.out.inv.cy; have := HX.out.cy; omega)
      have HDO := Lib.hid (fun wx (hg : ChGo wr (K.foot cb) cb K n sd x wx) => law_do A S wr (K.foot cb) cb K n sd x wx a hg HX.out.inv hs (H.out.errs HS0.out) (H.out.fe HS0.out) HM.out (by have := HW1.out; omega) (by have := HBD.out; omega) (by have := HK1.out; omega) HAW.out hcyw)
      clear hcyw
      have hkk : (a.kind.toList == [116, 117, 114, 110]) = false ∨ (a.kind.toList == [116, 117, 114, 110]) = true := by cases (a.kind.toList == [116, 117, 114, 110]) <;> simp
      rcases hkk with n20 | n20
      · have HQ := Lib.hid (HX.out.next (by omega) (CS.do_ok HX.out.inv sd a) (CS.do_pos HX.out.inv sd a HX.out.pos) (CS.do_issues HX.out.inv sd a))
        generalize (x.doOp sd a).1 = N at *
        generalize (x.doOp sd a).2 = y at *
        have n21 : (a.kind.toList != [116, 117, 114, 110]) = true := by simpa using n20
        go_wp2_with fail
        refine (HDO.out _ H.out.go).mono ?_
        rintro e w2 ⟨rfl, K2, n2, hn2, g2⟩
        have H2 := Lib.hid (H.out.of g2); have HN2 := Lib.hid hn2; clear g2 hn2
        go_wp2_with fail
        have hG := HG.out
        go_roundg (len0 - (t + 1))
        case measure => omega
        case rel => exact ⟨t + 1, n2, K2, y, H2.out, HQ.out, by omega, by go_num, by have := HN2.out; have := HW1.out; have := HBD.out; omega⟩
      · have n21 : (a.kind.toList != [116, 117, 114, 110]) = false := by simpa using n20
        clear HDO c1 c2 c3 c4 c6 c7 c8
        have HQS := Lib.hid HX.out.same
        obtain ⟨A0, A1, A2⟩ := HX.out.codes
        have HC := Lib.hid (And.intro A0 (And.intro A1 A2)); clear A0 A1 A2
        have HT := Lib.hid (chain_Turn A S wr (K.foot cb) cb K n sd x a.round wr H.out.go HX.out.inv hs (H.out.errs HS0.out) (H.out.fe HS0.out) m2 m3 m4)
        have HFF := Lib.hid (fun hc => rwF HX.out (by omega) sd a.round hc)
        have hb3 := turnV_bd HX.out.inv sd a.round
        have b0 := hb3.1; have b1 := hb3.2; clear hb3
        have HBK := Lib.hid (fun wx (hg : ChGo wr (K.foot cb) cb K n sd x wx) b => chain_Bake A S wr (K.foot cb) cb K n sd x wx b a.round hg HX.out.inv hs (H.out.errs HS0.out) (H.out.fe HS0.out) m2 m3 m4 m6 m9 (by have := HW1.out; omega) (by have := HBD.out; omega) (by have := HK1.out; omega))
        by_cases hc : x.turnC a.round = 0
        · have ec : ev A (x.turnC a.round) = .nilIface := by rw [hc]; rfl
          rw [ec] at HT
          have hF := HFF.out hc
          obtain ⟨f1, f2, ⟨st0, st1⟩, ⟨nb0, nb1⟩, f5, f6, f7, f8⟩ := hF
          clear HFF hc ec
          generalize x.turnV sd a.round = b at *
          generalize (x.reward b).1 = N at *
          generalize (x.reward b).2.stepOp = y at *
          have HBE := Lib.hid f1; have HQY := Lib.hid (HX.out.next (by omega) f5 f6 f7); clear f1 f5 f6 f7
          go_wp2_with fail
          refine HT.out.mono ?_
          rintro e w2 ⟨rfl, b2⟩
          have H2 := Lib.hid (H.out.next b2)
          have HB2 := Lib.hid b2; clear b2
          go_wp2_with fail
          go_loopg [10, 11] 3 (fun g sm i wr3 => ∃ k : Nat, wr3 = w2 ∧ g + k = 3 ∧ i = .int .i64 k ∧ sm = .int .i64 (stkK x.s k))
          case atStart => exact ⟨0, rfl, rfl, rfl, rfl⟩
          case round =>
            obtain ⟨k, rfl, hg, rfl, rfl⟩ := hrel
            by_cases hk : k < 3
            · obtain ⟨s1, s2, s3⟩ := stkK_bd HX.out.inv hk
              have HSt := Lib.hid (st_Staked (sb := K.sb) (k : Int) H2.out.ch.st)
              have HK2 := Lib.hid (show stkK x.s (k + 1) = stkK x.s k + x.s.staked k from rfl)
              have HGk := Lib.hid hg; clear hg
              generalize stkK x.s k = v at *
              generalize x.s.staked (k : Int) = u at *
              go_wp2_with fail
              refine (chain_Stakes H2.out.go).mono ?_
              rintro e w4 ⟨rfl, rfl⟩
              go_wp2_with fail
              refine HSt.out.mono ?_
              rintro e w4 ⟨rfl, rfl⟩
              go_wp2_with fail
              have hg := HGk.out
              go_roundg (3 - (k + 1))
              case measure => omega
              case rel => exact ⟨k + 1, rfl, by omega, by go_num, by rw [HK2.out]⟩
            · have hk3 : k = 3 := by omega
              subst hk3
              rw [stkK_all]
              have p0 := H2.out.go.c0
              go_wp2_with fail
              refine (purse_Supply K.pb x.p _ H2.out.ch.purse).mono ?_
              rintro e w4 ⟨rfl, rfl⟩
              go_wp2_with fail
              refine (issue_Ratio A S x.stakedAll x.p.supply _ (H2.out.errs HS0.out) m2).mono ?_
              rintro e w4 ⟨rfl, b4⟩
              rw [HC.out.1, show ratioN x.stakedAll x.p.supply = x.ratio from rfl]
              simp only [ev_nil]
              have H4 := Lib.hid (H2.out.next b4.below); have B4 := Lib.hid b4.below; clear b4
              go_wp2_with fail
              refine (chain_Bonus _ _ cb K n sd x _ H4.out.go).mono ?_
              rintro e w5 ⟨rfl, rfl⟩
              go_wp2_with fail
              refine (issue_Rate A S x.ratio x.bonus _ (H4.out.errs HS0.out) m2 m3).mono ?_
              rintro e w5 ⟨rfl, b5⟩
              rw [HC.out.2.1]
              simp only [ev_nil]
              have H5 := Lib.hid (H4.out.next b5); have B5 := Lib.hid b5; clear b5
              have p0 := H5.out.go.c0
              go_wp2_with fail
              refine (purse_Supply K.pb x.p _ H5.out.ch.purse).mono ?_
              rintro e w6 ⟨rfl, rfl⟩
              go_wp2_with fail
              refine (issue_Reward A S x.p.supply (rateN x.ratio x.bonus) _ (H5.out.errs HS0.out) m2).mono ?_
              rintro e w6 ⟨rfl, b6⟩
              rw [HC.out.2.2, show rewardN x.p.supply (rateN x.ratio x.bonus) = x.issues from rfl]
              simp only [ev_nil]
              have H6 := Lib.hid (H5.out.next b6.below); have B6 := Lib.hid b6.below; clear b6
              generalize x.issues = want at *
              generalize x.ratio = ra at *
              go_wp2_with fail
              refine (chain_Stakes H6.out.go).mono ?_
              rintro e w7 ⟨rfl, rfl⟩
              go_wp2_with fail
              refine (st_Staked b H6.out.ch.st).mono ?_
              rintro e w7 ⟨rfl, rfl⟩
              have HBX := Lib.hid (btrans HB2.out (btrans B4.out (btrans B5.out B6.out)))
              have c5' := HCS.out _ HBX.out
              have HBC := Lib.hid (HBK.out _ (H.out.go.below HBX.out) b)
              rw [HBE.out] at HBC
              simp only [ev_nil] at HBC
              have lv0 := HX.out.inv.lv
              generalize x.s.staked b = st at *
              have hys : ∃ ys, y.s.staked b = ys := ⟨_, rfl⟩
              obtain ⟨ys, hys⟩ := hys
              rw [hys] at f8
              have HYS := Lib.hid hys; clear hys
              have hcase : ((N != want) = false) ∨ ((N != want) = true ∧ (N != 0) = false ∧ decide (0 < st) = false) := by
                by_cases hn : N = want
                · exact .inl (by simp [hn])
                · rcases f2 with f2 | ⟨f2, f3⟩
                  · exact absurd f2 hn
                  · exact .inr ⟨by simp [hn], by simp [f2], by simp [f3]⟩
              have hlast : ((x.level % 4 == 3) = true) ∨ ((x.level % 4 == 3) = false ∧ (ys != st + N) = false) := by
                by_cases hn : x.level % 4 = 3
                · exact .inl (by simp [hn])
                · exact .inr ⟨by simp [hn], by simp [f8 hn]⟩
              clear f2 f8 HBK HBE HT
              rcases hcase with q1 | ⟨q1, q2, q3⟩ <;> rcases hlast with q4 | ⟨q4, q5⟩
              all_goals (
                go_wp2_with fail
                refine (chain_Level H6.out.go).mono ?_
                rintro e w8 ⟨rfl, rfl⟩
                go_wp2_with fail
                refine HBC.out.mono ?_
                rintro e w8 ⟨rfl, K8, g8⟩
                have H8 := Lib.hid (H.out.of g8); clear g8
                go_wp2_with fail
                try (
                  refine (chain_Stakes H8.out.go).mono ?_
                  rintro e w9 ⟨rfl, rfl⟩
                  go_wp2_with fail
                  refine (st_Staked b H8.out.ch.st).mono ?_
                  rintro e w9 ⟨rfl, rfl⟩
                  rw [HYS.out]
                  go_wp2_with fail)
                have hG := HG.out
                go_roundg (len0 - (t + 1))
                case measure => omega
                case rel => exact ⟨t + 1, n + 1, K8, y, H8.out, HQY.out, by omega, by go_num, by have := HBD.out; omega⟩)
        · have ec : ev A (x.turnC a.round) = .iface 386 (.pointer (some (A (x.turnC a.round)))) := ev_some A hc
          rw [ec] at HT
          generalize x.turnV sd a.round = b at *
          generalize x.turnC a.round = co at *
          clear hc ec HFF HBK
          go_wp2_with fail
          refine HT.out.mono ?_
          rintro e w2 ⟨rfl, b2⟩
          have H2 := Lib.hid (H.out.next b2); clear b2
          go_wp2_with fail
          have hG := HG.out
          go_roundg (len0 - (t + 1))
          case measure => omega
          case rel => exact ⟨t + 1, n, K, x, H2.out, HQS.out, by omega, by go_num, by have := HBD.out; omega⟩
    · go_wp2_with fail
      go_ret
      exact ⟨rfl, btrans HB0.out H.out.below⟩

set_option maxRecDepth 8000 in
theorem rew_all (A : Nat → Addr) (sd : Nat) (hs : sd < 18446744073709551616) (a0 : Option Addr) (len0 cap0 : Nat) (l0 : List ActC) (w : World) (S : List Nat) (hS : Errs A S w) (mS : ∀ c ∈ [2, 3, 4, 5, 6, 7, 8, 9, 10], c ∈ S) (R0 : RdR ActC.enc 9 w a0 len0 cap0 l0) (hwf : ∀ x ∈ l0, x.wf) :
    Calls Tryz.prog 5 #[.int .u64 sd, .slice a0 len0 cap0] w fun e w' => e = .returned (.bool true) ∧ Below w.heap.size w w' := by
  by_cases hl : len0 ≤ 120
  · exact rew_walk A sd hs a0 len0 cap0 l0 w S hS mS R0 hwf hl
  · have HS := Lib.hid hS
    have d1 : decide ((120 : Int) < (len0 : Int)) = true := by simp; omega
    have HM := Lib.hid mS
    clear hS R0 hwf mS
    go_enter Tryz.func5, Tryz.ntmps5
    go_wp2_with fail
    refine (law_begun A S _ HS.out (fun c hc => HM.out c ((by decide : ∀ c ∈ [2, 3, 4, 5, 6, 7, 8, 9], c ∈ [2, 3, 4, 5, 6, 7, 8, 9, 10]) c hc))).mono ?_
    rintro e w0 ⟨rfl, hb0⟩
    have HB0 := Lib.hid hb0; clear hb0
    go_wp2_with fail
    go_ret
    exact ⟨rfl, HB0.out⟩
end Go.Proofs.YtajnfkmkombajacGreatDoor
