/-
  The document's chain: a block is baked.
  The document's chain: whose turn it is bakes.
  ScriptPlays: contracts of orElse and of a model's cycle.
  Scripts: act, tell, look: a command with its form.
  Scripts: the closures of act, tell, look, round what they hold.
  A map whose keys are strings, whatever its elements: laid, stored into, looked up. No program in sight.
-/
import Derived.Test.YtajnfkmkombajaaGreatDoorQSP32
import Derived.Test.YtajnfkmkombajaaGreatDoorQSP20
import Derived.Test.YtajnfkmkombajaaGreatDoorQSP21
import Derived.Test.YtajnfkmkombajaaGreatDoorQSP01
import Derived.Test.YtajnfkmkombajaaGreatDoorQSP23
import Derived.Deep.LoopGhost
import Derived.Test.YtajnfkmkombajaaGreatDoorProg
import Derived.Laws.Rows
import Derived.Laws.ResultCell
import Derived.Laws.EntriesVeiled
import Derived.WalkKit
import Derived.Test.YtajnfkmkombajaaGreatDoorQSP02
import Derived.Maps.OwnSet
set_option linter.unusedVariables false
set_option linter.unusedSimpArgs false
set_option linter.unusedVariables false
namespace Go.Proofs.YtajnfkmkombajaaGreatDoor
open Go.RowKit Go.Maps
theorem CS.reward_doc {x : CS} (h : x.Inv) (b : Int) : x.reward b = (if 1125899906842624 < x.p.supply + x.issues then (0, x) else if (x.s.addOp b x.issues).1 ≠ 0 then (0, { x with s := (x.s.addOp b x.issues).2 }) else (x.issues, { x with s := (x.s.addOp b x.issues).2, p := (x.p.growOp x.issues).2 })) := by
 have hi := CS.issues_bd h
 have hle := h.p.le
 have s0 := h.p.sum_bd
 unfold CS.reward
 split
 · rfl
 · next hm =>
   split
   · rfl
   · have hg : x.p.growOp x.issues = (0, x.p.grow x.issues) := by
       unfold PS.growOp; rw [if_pos]; simp only [Bool.and_eq_true, amtB_iff]; omega
     rw [hg]; rfl
section
variable (W : World) (F : Nat → Prop) (cb : Nat) (K : RChL) (sd : Nat) (x : CS) (Z : List (List Int)) (w : World)
set_option maxRecDepth 8000 in
set_option maxHeartbeats 2000000 in
theorem refc_Bake (b r : Int) (h : RChGo W F cb K sd x Z w) (hx : x.Inv) (hz : PicsOf x Z) (hs : sd < 18446744073709551616) (hW : x.s.W.length ≤ 8000) (hk : x.k.L.length ≤ 1000000) :
   Calls Tryz.prog 47 #[.pointer (some ⟨cb, 0, none⟩), .int .i64 b, .int .i64 r] w fun e w' => e = .returned (.tuple #[.int .i64 (x.bakeOp sd b r).1, .int .i64 (x.bakeOp sd b r).2.1]) ∧ ∃ K' Z', RChGo W F cb K' sd (x.bakeOp sd b r).2.2 Z' w' ∧ PicsOf (x.bakeOp sd b r).2.2 Z' := by
 have H0 := Lib.hid h
 have HX := Lib.hid hx
 have HZ := Lib.hid hz
 have HT := Lib.hid (refc_Turn W F cb K sd x Z w r h hx hz hs)
 clear h hx hz
 by_cases hc : x.turnC r = 0
 · obtain ⟨⟨r0, r1⟩, ⟨r2, r3⟩, r4, r5⟩ := turnC_zero hc
   rw [hc] at HT
   by_cases hb : x.turnV sd r = b
   · have E := Lib.hid (show x.bakeOp sd b r = ((x.reward b).1, 0, (x.reward b).2.stepOp) by unfold CS.bakeOp; rw [if_neg (by simp [hc]), if_neg (by simp [hb])])
     obtain ⟨i1, -, -, i4, i5⟩ := CS.reward_inv HX.out b
     obtain ⟨k1, k2, k3⟩ := CS.reward_keeps x b
     have HI := Lib.hid i1
     have HRZ := Lib.hid (show PicsOf (x.reward b).2 Z from HZ.out.same i4 k1)
     have hl1 : (x.reward b).2.level = x.level := i5
     have hc1 : (x.reward b).2.cycle = x.cycle := i4
     have hk1 : (x.reward b).2.k.L.length ≤ 1000000 := by rw [k2]; exact hk
     have hw1 : (x.reward b).2.s.W.length ≤ 8000 := by rw [CS.reward_len]; exact hW
     have HRD := Lib.hid (CS.reward_doc HX.out b)
     obtain ⟨ra0, ra1⟩ := CS.ratio_bd HX.out
     have hro : rateOk x.ratio x.bonus := ⟨ra0, ra1, HX.out.b0, HX.out.b1⟩
     obtain ⟨is0, is1⟩ := CS.issues_bd HX.out
     have HIS := Lib.hid (show rewardN x.p.supply (rateN x.ratio x.bonus) = x.issues from rfl)
     have su0 : 0 ≤ x.p.supply := by have := HX.out.p.sum_bd; have := HX.out.p.le; omega
     have su1 := HX.out.p.most
     rw [hb] at HT
     have HFC := Lib.hid (fun wx (hg : RChGo W F cb K sd x Z wx) => show wx.cell? ⟨cb, 0, none⟩ = some (.pointer (some ⟨K.pb, 0, none⟩)) ∧ wx.cell? ⟨K.pb, 1, none⟩ = some (.int .i64 x.p.supply) ∧ wx.cell? ⟨cb, 6, none⟩ = some (.int .i64 x.bonus) from ⟨hg.c0, hg.ch.purse.c1, hg.c6⟩)
     clear i1 i4 i5 k1 k2 k3 hb hc ra0 ra1
     go_enter Tryz.func47, Tryz.ntmps47
     go_wp2_with fail
     refine HT.out.mono ?_
     rintro e w1 ⟨rfl, hb1⟩
     have H1 := Lib.hid ((H0.out.below hb1).below ((Below.refl _ _).alloc (Nat.le_refl _) (.cells #[.int .i64 0, .int .i64 (-1)] 65))); clear hb1
     obtain ⟨w2, hw2⟩ : ∃ w2, w1.alloc (.cells #[.int .i64 0, .int .i64 (-1)] 65) = w2 := ⟨_, rfl⟩
     rw [hw2] at H1
     have k0 : w2.cell? ⟨w1.heap.size, 0, none⟩ = some (.int .i64 0) := by rw [← hw2]; simp [go_sem]
     have HRT := Lib.hid (fun wx hg => refc_ratio W F cb K sd x Z wx hg HX.out)
     go_wp2_with fail
     go_region_held3 (fun wx => wx.cell? ⟨cb, 0, none⟩ = some (.pointer (some ⟨K.pb, 0, none⟩)) ∧ wx.cell? ⟨K.pb, 1, none⟩ = some (.int .i64 x.p.supply) ∧ wx.cell? ⟨cb, 6, none⟩ = some (.int .i64 x.bonus)) (first | exact HFC.out _ H3.out | exact HFC.out _ H2.out | exact HFC.out _ (H1.out.drewN _) | exact HFC.out _ H1.out)
       (first
         | (go_at_call 74; refine (HRT.out _ (H1.out.drewN 1)).mono ?_; rintro y wa ⟨rfl, da⟩; have H2 := Lib.hid ((H1.out.drewN 1).dr da))
         | (go_at_call 73; refine (ref_RateOf x.ratio x.bonus _ hro).mono ?_; rintro y wc ⟨rfl, bc⟩; have H3 := Lib.hid (H2.out.below bc))
         | (go_at_call 72; refine (ref_RewardOf x.p.supply (rateN x.ratio x.bonus) _).mono ?_; rintro y wd ⟨rfl, rfl⟩))
     rw [HIS.out]
     generalize rewardC x.p.supply (rateN x.ratio x.bonus) = rc at *
     go_upto_if 53 with fail
     go_cut [10] (fun s10 wx => s10 = .int .i64 (x.reward b).1 ∧ ∃ K', RChGo W F cb K' sd (x.reward b).2 Z wx)
     case first =>
       clear HI HRZ hl1 hc1 hk1 hw1
       obtain ⟨f0, f1, f2⟩ := HFC.out _ H3.out
       have f3 := H3.out.c1
       by_cases hm : 1125899906842624 < x.p.supply + x.issues
       · have E2 := Lib.hid (show x.reward b = (0, x) by rw [HRD.out, if_pos hm])
         have hd : decide ((1125899906842624 : Int) < x.p.supply + x.issues) = true := by simp; omega
         generalize x.issues = N at *
         generalize x.p.supply = P at *
         go_wp2_with fail
         go_meet
         case rel => exact ⟨by rw [E2.out], by rw [E2.out]; exact ⟨K, H3.out⟩⟩
       · have hd : decide ((1125899906842624 : Int) < x.p.supply + x.issues) = false := by simp; omega
         have hm2 : x.p.supply + x.issues ≤ 1125899906842624 := by omega
         have HA := Lib.hid (fun wx (hg : RChGo W F cb K sd x Z wx) => refs_Add K.sb K.Fs x.s wx b x.issues hg.ch.st)
         have HGR := Lib.hid (fun wx K2 (hp : RPurseAt (RChL.pb K2) (RChL.hb K2) x.p wx) => refp_Grow K2.pb K2.hb x.p x.issues wx hp)
         by_cases ha : (x.s.addOp b x.issues).1 = 0
         · have E2 := Lib.hid (show x.reward b = (x.issues, { x with s := (x.s.addOp b x.issues).2, p := (x.p.growOp x.issues).2 }) by rw [HRD.out, if_neg hm, if_neg (by simp [ha])])
           rw [ha] at HA
           clear hm ha
           generalize x.issues = N at *
           generalize x.p.supply = P at *
           go_wp2_with fail
           refine (HA.out _ H3.out).mono ?_
           rintro e w4 ⟨rfl, k4⟩
           have H4 := Lib.hid (H3.out.stakes k4); clear k4
           have g0 := H4.out.c0
           go_wp2_with fail
           refine (HGR.out _ (K.withS _ _) H4.out.ch.purse).mono ?_
           rintro e w5 ⟨rfl, k5⟩
           have H5 := Lib.hid (H4.out.purse k5); clear k5
           go_wp2_with fail
           go_meet
           case rel => exact ⟨by rw [E2.out], by rw [E2.out]; exact ⟨_, H5.out⟩⟩
         · have E2 := Lib.hid (show x.reward b = (0, { x with s := (x.s.addOp b x.issues).2 }) by rw [HRD.out, if_neg hm, if_pos ha])
           have hpos : decide (0 < ((x.s.addOp b x.issues).1 : Int)) = true := by simp; omega
           have hpos2 : decide (0 < (x.s.addOp b x.issues).1) = true := by simp; omega
           clear hm ha HGR
           generalize (x.s.addOp b x.issues).1 = ac at *
           generalize x.issues = N at *
           generalize x.p.supply = P at *
           go_wp2_with fail
           refine (HA.out _ H3.out).mono ?_
           rintro e w4 ⟨rfl, k4⟩
           have H4 := Lib.hid (H3.out.stakes k4); clear k4
           go_wp2_with fail
           go_meet
           case rel => exact ⟨by rw [E2.out], by rw [E2.out]; exact ⟨_, H4.out⟩⟩
     case rest =>
       obtain ⟨rfl, K2, hg2⟩ := hcut
       have H2 := Lib.hid hg2; clear hg2 HRD HFC HIS
       clear hro is0 is1 su0 su1
       generalize (x.reward b).2 = y at *
       generalize (x.reward b).1 = rw_ at *
       generalize hL : x.level = L at *
       have c5 := H2.out.c5; have f5 := H2.out.ch.row.frozen 5
       rw [hl1] at c5
       have H3 := Lib.hid (H2.out.put (i := 5) (v := .int .i64 (L + 1)) (y := { y with level := L + 1 }) rfl rfl rfl rfl)
       have em : (L + 1).tmod 4 = (L + 1) % 4 := Int.tmod_eq_emod_of_nonneg (by omega)
       by_cases hm : (L + 1) % 4 = 0
       · have hm' : (L + 1).tmod 4 = 0 := by rw [em]; exact hm
         have ES := Lib.hid (show y.stepOp = ({ y with level := L + 1 } : CS).endOp by unfold CS.stepOp; rw [hl1, if_pos hm])
         have hinv : ({ y with level := L + 1 } : CS).Inv := ⟨HI.out.p, HI.out.s, HI.out.reg, HI.out.bal, HI.out.known, HI.out.done, HI.out.b0, HI.out.b1, HI.out.three, HI.out.pic, HI.out.cy, by show 0 ≤ L + 1; omega⟩
         have HEN := Lib.hid (refc_end W F cb K2 sd { y with level := L + 1 } Z _ H3.out hinv (HRZ.out.same rfl rfl) hw1 hk1 (by show y.cycle ≤ _; rw [hc1]; omega))
         have hm2 : ((L + 1) % 4 == 0) = true := by simp [hm]
         clear em hm hinv
         go_wp2_with fail
         refine HEN.out.mono ?_
         rintro e w3 ⟨rfl, K3, Z3, hg3, hz3⟩
         have H4 := Lib.hid (And.intro hg3 hz3); clear hg3 hz3
         go_wp2_with fail
         go_ret2
         exact ⟨by rw [E.out]; rfl, by rw [E.out, ES.out]; exact ⟨K3, Z3, H4.out.1, H4.out.2⟩⟩
       · have hm' : ((L + 1).tmod 4 == 0) = false := by rw [em]; simp [hm]
         have ES := Lib.hid (show y.stepOp = { y with level := L + 1 } by unfold CS.stepOp; rw [hl1, if_neg hm])
         have hm2 : ((L + 1) % 4 == 0) = false := by simp [hm]
         clear em hm
         go_wp2_with fail
         go_ret2
         exact ⟨by rw [E.out]; rfl, by rw [E.out, ES.out]; exact ⟨K2, Z, H3.out, HRZ.out.same rfl rfl⟩⟩
   · have E := Lib.hid (show x.bakeOp sd b r = (0, 9, x) by unfold CS.bakeOp; rw [if_neg (by simp [hc]), if_pos hb])
     have hne : (x.turnV sd r != b) = true := by simp [hb]
     clear hc hb
     generalize x.turnV sd r = tv at *
     go_enter Tryz.func47, Tryz.ntmps47
     go_wp2_with fail
     refine HT.out.mono ?_
     rintro e w1 ⟨rfl, hb1⟩
     have H1 := Lib.hid (H0.out.below hb1); clear hb1
     go_wp2_with fail
     go_ret2
     exact ⟨by rw [E.out]; rfl, by rw [E.out]; exact ⟨K, Z, H1.out.below ((Below.refl _ _).alloc (Nat.le_refl _) _), HZ.out⟩⟩
 · have E := Lib.hid (show x.bakeOp sd b r = (0, x.turnC r, x) by unfold CS.bakeOp; rw [if_pos hc])
   have hpos : decide (0 < (x.turnC r : Int)) = true := by simp; omega
   have hpos2 : decide (0 < x.turnC r) = true := by simp; omega
   clear hc
   generalize x.turnC r = tc at *
   go_enter Tryz.func47, Tryz.ntmps47
   go_wp2_with fail
   refine HT.out.mono ?_
   rintro e w1 ⟨rfl, hb1⟩
   have H1 := Lib.hid (H0.out.below hb1); clear hb1
   go_wp2_with fail
   go_quiet (fail)
   go_wp2_with fail
   go_ret2
   exact ⟨by rw [E.out]; rfl, by rw [E.out]; exact ⟨K, Z, (H1.out.below ((Below.refl _ _).alloc (Nat.le_refl _) _)).drewN _, HZ.out⟩⟩
end
end Go.Proofs.YtajnfkmkombajaaGreatDoor
namespace Go.Proofs.YtajnfkmkombajaaGreatDoor
open Go.RowKit Go.Maps
section
variable (W : World) (F : Nat → Prop) (cb : Nat) (K : RChL) (sd : Nat) (x : CS) (Z : List (List Int)) (w : World)
set_option maxRecDepth 8000 in
set_option maxHeartbeats 1000000 in
theorem refc_BakeTurn (r : Int) (h : RChGo W F cb K sd x Z w) (hx : x.Inv) (hz : PicsOf x Z) (hs : sd < 18446744073709551616) (hW : x.s.W.length ≤ 8000) (hk : x.k.L.length ≤ 1000000) :
   Calls Tryz.prog 26 #[.pointer (some ⟨cb, 0, none⟩), .int .i64 r] w fun e w' => e = .returned (.tuple #[.int .i64 (x.btV sd r), .int .i64 (x.btN sd r), .int .i64 (x.turnC r)]) ∧ ∃ K' Z', RChGo W F cb K' sd (x.btS sd r) Z' w' ∧ PicsOf (x.btS sd r) Z' := by
 have H0 := Lib.hid h
 have HZ := Lib.hid hz
 have HT := Lib.hid (refc_Turn W F cb K sd x Z w r h hx hz hs)
 have HB := Lib.hid (fun wx (hg : RChGo W F cb K sd x Z wx) => refc_Bake W F cb K sd x Z wx (x.turnV sd r) r hg hx hz hs hW hk)
 clear h hx hz
 by_cases hc : x.turnC r = 0
 · have E1 := Lib.hid (show x.btV sd r = x.turnV sd r from if_pos hc)
   have E2 := Lib.hid (show x.btN sd r = (x.reward (x.turnV sd r)).1 from if_pos hc)
   have E3 := Lib.hid (show x.btS sd r = (x.reward (x.turnV sd r)).2.stepOp from if_pos hc)
   have E4 := Lib.hid (show x.bakeOp sd (x.turnV sd r) r = ((x.reward (x.turnV sd r)).1, 0, (x.reward (x.turnV sd r)).2.stepOp) by unfold CS.bakeOp; rw [if_neg (by simp [hc]), if_neg (by simp)])
   rw [E4.out] at HB
   rw [hc] at HT
   rw [E1.out, E2.out, E3.out, hc]
   clear hc E4 E1 E2 E3
   generalize x.turnV sd r = tv at *
   go_enter Tryz.func26, Tryz.ntmps26
   go_wp2_with fail
   refine HT.out.mono ?_
   rintro e w1 ⟨rfl, b1⟩
   have H1 := Lib.hid (H0.out.below b1); clear b1
   have ba : ∀ ob, Below w1.heap.size w1 (w1.alloc ob) := fun ob => (Below.refl _ _).alloc (Nat.le_refl _) _
   have HBA := Lib.hid ba; clear ba
   go_wp2_with fail
   refine (HB.out _ (H1.out.below (HBA.out _))).mono ?_
   rintro e w2 ⟨rfl, K2, Z2, g2, z2⟩
   have H2 := Lib.hid (And.intro g2 z2); clear g2 z2
   go_wp2_with fail
   go_ret3
   exact ⟨rfl, K2, Z2, H2.out.1, H2.out.2⟩
 · have E1 := Lib.hid (show x.btV sd r = 0 from if_neg hc)
   have E2 := Lib.hid (show x.btN sd r = 0 from if_neg hc)
   have E3 := Lib.hid (show x.btS sd r = x from if_neg hc)
   have hpos : decide (0 < (x.turnC r : Int)) = true := by simp; omega
   have hpos2 : decide (0 < x.turnC r) = true := by simp; omega
   rw [E1.out, E2.out, E3.out]
   clear hc E1 E2 E3 HB
   generalize x.turnC r = tc at *
   go_enter Tryz.func26, Tryz.ntmps26
   go_wp2_with fail
   refine HT.out.mono ?_
   rintro e w1 ⟨rfl, b1⟩
   have H1 := Lib.hid (H0.out.below b1); clear b1
   go_wp2_with fail
   go_quiet (fail)
   go_wp2_with fail
   go_ret3
   exact ⟨rfl, K, Z, (H1.out.below ((Below.refl _ _).alloc (Nat.le_refl _) _)).drewN _, HZ.out⟩
end
end Go.Proofs.YtajnfkmkombajaaGreatDoor
namespace Go.Proofs.YtajnfkmkombajaaGreatDoor
open Go Go.RowKit Go.Maps
def tellB (c : Nat) (s : ByteArray) : ByteArray := if c = 0 then s else errB c
set_option maxHeartbeats 1000000 in
theorem law3_orElse (c : Nat) (hc : c ≤ 10) (s : ByteArray) (w : World) : Calls Tryz.prog 19 #[.int .i64 c, .string s] w fun e w' => e = .returned (.string (tellB c s)) ∧ Below w.heap.size w w' := by
 by_cases h0 : c = 0
 · subst h0
   simp only [Int.natCast_zero]
   go_enter Tryz.func19, Tryz.ntmps19
   go_wp2_with fail
   go_ret
   exact ⟨rfl, Below.refl _ _⟩
 · have d0 : decide ((0 : Int) < (c : Int)) = true := decide_eq_true (by omega)
   have d0' : decide (0 < c) = true := decide_eq_true (by omega)
   have HE := Lib.hid (law3_errorText c (by omega) hc w)
   rw [show tellB c s = errB c from if_neg h0]
   clear h0 hc
   go_enter Tryz.func19, Tryz.ntmps19
   go_wp2_with fail
   refine HE.out.mono ?_
   rintro e w1 ⟨rfl, b1⟩
   go_wp2_with fail
   go_ret
   exact ⟨rfl, b1⟩
theorem RChGo.since {W0 W : World} {F : Nat → Prop} {cb sd : Nat} {K : RChL} {x : CS} {Z : List (List Int)} {w : World} (h : RChGo W F cb K sd x Z w) (b : Below W0.heap.size W0 W) (hF : ∀ i, F i → i < W0.heap.size) : RChGo W0 F cb K sd x Z w :=
 ⟨(Keep.of_below b).trans (h.keep), h.ch, fun i hi => (h.foot i hi).imp id (fun ⟨p, q⟩ => ⟨Nat.le_trans b.size p, q⟩), hF⟩
set_option maxRecDepth 8000 in
set_option maxHeartbeats 4000000 in
theorem refc_cycle (W : World) (F : Nat → Prop) (cb : Nat) (K : RChL) (sd : Nat) (x : CS) (Z : List (List Int)) (w : World) (h : RChGo W F cb K sd x Z w) (hx : x.Inv) (hz : PicsOf x Z) (hs : sd < 18446744073709551616) (hW : x.s.W.length ≤ 8000) (hk : x.k.L.length ≤ 1000000) :
   Calls Tryz.prog 30 #[.pointer (some ⟨cb, 0, none⟩)] w fun e w' => e = .returned (.string (tellB (x.cycleOp sd).1 okB)) ∧ ∃ K' Z', RChGo W F cb K' sd (x.cycleOp sd).2 Z' w' ∧ PicsOf (x.cycleOp sd).2 Z' := by
 have H := Lib.hid h
 have HC := Lib.hid (CycAt.start hx sd)
 have HZ := Lib.hid hz
 have c4 := h.c4
 have hlb := CS.left_bd hx
 clear h hz
 go_enter Tryz.func30, Tryz.ntmps30
 go_wp2_with fail
 go_loopg [4] x.left (fun g (v : Value) wr => ∃ (K' : RChL) (Z' : List (List Int)) (y : CS), RChGo W F cb K' sd y Z' wr ∧ PicsOf y Z' ∧ CycAt x sd g y)
 case atStart => exact ⟨K, Z, x, H.out, HZ.out, HC.out⟩
 case round =>
   clear HC c4 HZ H
   obtain ⟨K1, Z1, y, g1, hz1, hc⟩ := hrel
   have H1 := Lib.hid g1; have HC := Lib.hid hc; have HZ1 := Lib.hid hz1
   have c4 := g1.c4
   clear g1 hc hz1
   have hyW := HC.out.w; have hyk := HC.out.k
   cases gk with
   | zero =>
     have hcy := (HC.out.at_.resolve_right (fun e => by have := (CS.left_bd HC.out.inv).1; omega)).2
     have t1 : (y.cycle == x.cycle) = false := by rw [beq_eq_false_iff_ne]; omega
     have HEQ := Lib.hid HC.out.eq
     clear hcy
     go_wp2_with fail
     go_ret
     exact ⟨by rw [HEQ.out]; rfl, by rw [HEQ.out]; exact ⟨K1, Z1, H1.out, HZ1.out⟩⟩
   | succ m =>
     have hcy := (HC.out.at_.resolve_left (fun e => by omega)).2
     have t1 : (y.cycle == x.cycle) = true := by rw [hcy]; exact beq_self_eq_true _
     have HEQ := Lib.hid HC.out.eq
     clear hcy
     have HB := Lib.hid (refc_BakeTurn W F cb K1 sd y Z1 wr 0 H1.out HC.out.inv HZ1.out hs (by omega) (by omega))
     have hle := @turnC_le10 y 0
     by_cases hc0 : y.turnC 0 = 0
     · have HN := Lib.hid (HC.out.next hc0)
       rw [hc0] at HB
       simp only [Int.natCast_zero] at HB
       clear hc0 hyW hyk hle
       generalize y.btS sd 0 = z at *
       generalize y.btV sd 0 = v1 at *
       generalize y.btN sd 0 = v2 at *
       go_wp2_with fail
       refine HB.out.mono ?_
       rintro e w3 ⟨rfl, K2, Z2, g2, hz2⟩
       have H2 := Lib.hid g2; have HZ2 := Lib.hid hz2; clear g2 hz2
       go_wp2_with fail
       go_roundg m
       case measure => omega
       case rel => exact ⟨K2, Z2, z, H2.out, HZ2.out, HN.out⟩
     · have hr : CS.cycleN sd (m + 1) y = (y.turnC 0, y) := by
         show (if y.turnC 0 ≠ 0 then _ else _) = _
         rw [if_pos hc0]
       have hs2 : y.btS sd 0 = y := if_neg hc0
       rw [hr] at HEQ
       rw [hs2] at HB
       have HTB := Lib.hid (show tellB (y.turnC 0) okB = errB (y.turnC 0) from if_neg hc0)
       have HER := Lib.hid (fun wx => law3_errorText (y.turnC 0) (by omega) hle wx)
       have d0 : decide ((0 : Int) < (y.turnC 0 : Int)) = true := decide_eq_true (by omega)
       have d0' : decide (0 < y.turnC 0) = true := decide_eq_true (by omega)
       clear hr hs2 hc0 hyW hyk hle
       generalize y.btV sd 0 = v1 at *
       generalize y.btN sd 0 = v2 at *
       generalize y.turnC 0 = tc at *
       go_wp2_with fail
       refine HB.out.mono ?_
       rintro e w3 ⟨rfl, K2, Z2, g2, hz2⟩
       have H2 := Lib.hid g2; have HZ2 := Lib.hid hz2; clear g2 hz2
       go_wp2_with fail
       refine (HER.out _).mono ?_
       rintro e w4 ⟨rfl, b4⟩
       go_wp2_with fail
       go_ret
       exact ⟨by rw [HEQ.out, HTB.out]; rfl, by rw [HEQ.out]; exact ⟨K2, Z2, H2.out.below b4, HZ2.out⟩⟩
end Go.Proofs.YtajnfkmkombajaaGreatDoor
namespace Go.Proofs.YtajnfkmkombajaaGreatDoor
open Go.RowKit Go.Maps
def fnV (f : Nat) : Value := .func (.func f) #[] #[]
def closV (f h : Nat) : Value := .func (.func f) #[] #[.pointer (some ⟨h, 0, none⟩)]
set_option maxRecDepth 8000 in
theorem scr_act (form : ByteArray) (fn : Fn) (first cap : Array Value) (w : World) : Calls Tryz.prog 89 #[.string form, .func fn first cap] w fun e w' => e = .returned (.agg #[.string form, closV 144 w.heap.size]) ∧ Below w.heap.size w w' ∧ w'.cell? ⟨w.heap.size, 0, none⟩ = some (.func fn first cap) := by
 have hmf : ∀ (fn : Fn) (first cap : Array Value) (w : World), (Instr.makeFunc fn first cap).run Tryz.prog w = .ok (.func fn first cap) w := fun _ _ _ _ => rfl
 go_enter Tryz.func89, Tryz.ntmps89
 go_wp2_with fail
 have hr := RowAt.new (w.alloc (.cells #[.func fn first cap] 156)) 113 [.string form, closV 144 w.heap.size]
 rw [show (w.alloc (.cells #[.func fn first cap] 156)).heap.size = w.heap.size + 1 by simp] at hr
 (try simp only [Exit.inBlock, Exit.then])
 refine bodyPost_ret (v := .agg #[.string form, closV 144 w.heap.size]) (results_cell_row rfl _ _ (w.heap.size + 1) _ #[.string form, closV 144 w.heap.size] _ _ rfl hr Tryz.underlying113 rfl (by kernel_rfl)) rfl ⟨rfl, ?_, ?_⟩
 · exact ((Below.refl _ _).alloc (Nat.le_refl _) _).alloc (by simp) _
 · rw [Below.cell ((Below.refl _ _).alloc (Nat.le_refl _) _) (p := ⟨w.heap.size, 0, none⟩) (by simp)]
   unfold World.cell?
   rw [heap_alloc_new]; simp
set_option maxRecDepth 8000 in
theorem scr_tell (form : ByteArray) (fn : Fn) (first cap : Array Value) (w : World) : Calls Tryz.prog 99 #[.string form, .func fn first cap] w fun e w' => e = .returned (.agg #[.string form, closV 148 w.heap.size]) ∧ Below w.heap.size w w' ∧ w'.cell? ⟨w.heap.size, 0, none⟩ = some (.func fn first cap) := by
 have hmf : ∀ (fn : Fn) (first cap : Array Value) (w : World), (Instr.makeFunc fn first cap).run Tryz.prog w = .ok (.func fn first cap) w := fun _ _ _ _ => rfl
 go_enter Tryz.func99, Tryz.ntmps99
 go_wp2_with fail
 have hr := RowAt.new (w.alloc (.cells #[.func fn first cap] 162)) 113 [.string form, closV 148 w.heap.size]
 rw [show (w.alloc (.cells #[.func fn first cap] 162)).heap.size = w.heap.size + 1 by simp] at hr
 (try simp only [Exit.inBlock, Exit.then])
 refine bodyPost_ret (v := .agg #[.string form, closV 148 w.heap.size]) (results_cell_row rfl _ _ (w.heap.size + 1) _ #[.string form, closV 148 w.heap.size] _ _ rfl hr Tryz.underlying113 rfl (by kernel_rfl)) rfl ⟨rfl, ?_, ?_⟩
 · exact ((Below.refl _ _).alloc (Nat.le_refl _) _).alloc (by simp) _
 · rw [Below.cell ((Below.refl _ _).alloc (Nat.le_refl _) _) (p := ⟨w.heap.size, 0, none⟩) (by simp)]
   unfold World.cell?
   rw [heap_alloc_new]; simp
set_option maxRecDepth 8000 in
theorem scr_look (form : ByteArray) (fn : Fn) (first cap : Array Value) (w : World) : Calls Tryz.prog 107 #[.string form, .func fn first cap] w fun e w' => ∃ h, w.heap.size ≤ h ∧ e = .returned (.agg #[.string form, closV 148 h]) ∧ Below w.heap.size w w' ∧ w'.cell? ⟨h, 0, none⟩ = some (closV 153 w.heap.size) ∧ w'.cell? ⟨w.heap.size, 0, none⟩ = some (.func fn first cap) := by
 have hmf : ∀ (fn : Fn) (first cap : Array Value) (w : World), (Instr.makeFunc fn first cap).run Tryz.prog w = .ok (.func fn first cap) w := fun _ _ _ _ => rfl
 obtain ⟨wa, hwa⟩ : ∃ wa, w.alloc (.cells #[.func fn first cap] 166) = wa := ⟨_, rfl⟩
 have hza : wa.heap.size = w.heap.size + 1 := by rw [← hwa]; simp
 have ba : Below w.heap.size w wa := by rw [← hwa]; exact (Below.refl _ _).alloc (Nat.le_refl _) _
 have ca : wa.cell? ⟨w.heap.size, 0, none⟩ = some (.func fn first cap) := by
   rw [← hwa]; unfold World.cell?; rw [heap_alloc_new]; simp
 have ra := RowAt.new wa 113 [.string ⟨#[]⟩, .nilFunc]
 obtain ⟨wb, hwb⟩ : ∃ wb, wa.alloc (.cells #[.string ⟨#[]⟩, .nilFunc] 113) = wb := ⟨_, rfl⟩
 have bb : Below wa.heap.size wa wb := by rw [← hwb]; exact (Below.refl _ _).alloc (Nat.le_refl _) _
 have rb : RowAt (w.heap.size + 1) 113 [.string ⟨#[]⟩, .nilFunc] wb := by rw [← hza, ← hwb]; exact ra
 have HB := Lib.hid (And.intro ba (And.intro bb (And.intro ca rb)))
 clear ba bb ca ra rb
 go_enter Tryz.func107, Tryz.ntmps107
 go_wp2_with fail
 refine (scr_tell _ _ _ _ _).mono ?_
 rintro e w3 ⟨rfl, hb3, hc3⟩
 have r3 := HB.out.2.2.2.below hb3 HB.out.2.2.2.lt
 have c0 := r3.cell 0; have c1 := r3.cell 1; have f0 := r3.frozen 0; have f1 := r3.frozen 1
 simp only [List.getElem?_cons_zero, List.getElem?_cons_succ] at c0 c1
 have hzb := HB.out.2.1.size
 have hzr := HB.out.2.2.2.lt
 have H3 := Lib.hid (And.intro (btrans (btrans HB.out.1 HB.out.2.1) hb3) (And.intro hc3 (And.intro r3 (show w3.cell? ⟨w.heap.size, 0, none⟩ = some (.func fn first cap) by
   rw [hb3.cell (p := ⟨w.heap.size, 0, none⟩) (by show w.heap.size < _; omega), HB.out.2.1.cell (p := ⟨w.heap.size, 0, none⟩) (by show w.heap.size < _; omega)]
   exact HB.out.2.2.1))))
 clear r3 hb3 hc3
 generalize wb.heap.size = hh at *
 unfold closV
 go_wp2_with fail
 (try simp only [Exit.inBlock, Exit.then])
 refine bodyPost_ret (v := .agg #[.string form, closV 148 hh]) (results_cell_row rfl _ _ (w.heap.size + 1) _ #[.string form, closV 148 hh] _ _ rfl ((H3.out.2.2.1.set 0 _).set 1 _) Tryz.underlying113 rfl (by kernel_rfl)) rfl ⟨hh, by omega, rfl, ?_, ?_, ?_⟩
 · exact (H3.out.1.setCell (p := ⟨w.heap.size + 1, 0, none⟩) (Nat.le_succ _) _).setCell (p := ⟨w.heap.size + 1, 1, none⟩) (Nat.le_succ _) _
 · rw [(((Keep.refl (· = w.heap.size + 1) w3).put (o := 0) (.string form)).put (o := 1) (.func (.func 148) #[] #[.pointer (some ⟨hh, 0, none⟩)])).cell (p := ⟨hh, 0, none⟩) (World.block_lt_of_cell? w3 _ H3.out.2.1) (by show ¬ hh = _; omega)]
   exact H3.out.2.1
 · rw [(((Keep.refl (· = w.heap.size + 1) w3).put (o := 0) (.string form)).put (o := 1) (.func (.func 148) #[] #[.pointer (some ⟨hh, 0, none⟩)])).cell (p := ⟨w.heap.size, 0, none⟩) (World.block_lt_of_cell? w3 _ H3.out.2.2.2) (by show ¬ w.heap.size = _; omega)]
   exact H3.out.2.2.2
end Go.Proofs.YtajnfkmkombajaaGreatDoor
namespace Go.Proofs.YtajnfkmkombajaaGreatDoor
open Go.RowKit Go.Maps
def Entered (f : Nat) : Prop := ∀ (args : Array Value) (w : World), (callFunc f args).run Tryz.prog w = .ok (.enter f args) w
section
variable (A : Nat → Addr) (f h : Nat) (p nv : Value) (w : World) (Q : World → Prop)
set_option maxRecDepth 8000 in
theorem scr_act1 (c : Nat) (he : Entered f) (hc : w.cell? ⟨h, 0, none⟩ = some (fnV f)) (HC : Calls Tryz.prog f #[p, nv] w fun e w' => e = .returned (ev A c) ∧ Q w') :
   Calls Tryz.prog 144 #[p, nv, .pointer (some ⟨h, 0, none⟩)] w fun e w' => e = .returned (.tuple #[.string okB, ev A c]) ∧ Q w' := by
 have H := Lib.hid HC; clear HC
 have he2 := he
 unfold Entered at he2
 unfold fnV at hc
 go_enter Tryz.func144, Tryz.ntmps144
 go_wp2_with fail
 refine H.out.mono ?_
 rintro e w1 ⟨rfl, hq⟩
 have HQ := Lib.hid hq; clear hq
 go_wp2_with fail
 go_ret2
 exact ⟨rfl, HQ.out⟩
set_option maxRecDepth 8000 in
theorem scr_tell1 (c : Nat) (k : Int) (hk : I64 k) (hL : ∀ w1, Q w1 → Lw A w1) (hQ : ∀ w1 w2, Q w1 → Below w1.heap.size w1 w2 → Q w2) (he : Entered f) (hc : w.cell? ⟨h, 0, none⟩ = some (fnV f)) (HC : Calls Tryz.prog f #[p, nv] w fun e w' => e = .returned (.tuple #[.int .i64 k, ev A c]) ∧ Q w') :
   Calls Tryz.prog 148 #[p, nv, .pointer (some ⟨h, 0, none⟩)] w fun e w' => e = .returned (.tuple #[.string (itoaB k), ev A c]) ∧ Q w' := by
 have H := Lib.hid HC; clear HC
 have he2 := he
 unfold Entered at he2
 unfold fnV at hc
 go_enter Tryz.func148, Tryz.ntmps148
 go_wp2_with fail
 refine H.out.mono ?_
 rintro e w1 ⟨rfl, hq⟩
 have HQ := Lib.hid hq; clear hq
 go_wp2_with fail
 refine (scr_Itoa A k hk w1 (hL w1 HQ.out)).mono ?_
 rintro e w2 ⟨rfl, hb⟩
 have HQ2 := Lib.hid (hQ _ _ HQ.out hb); clear hb
 go_wp2_with fail
 go_ret2
 exact ⟨rfl, HQ2.out⟩
set_option maxRecDepth 8000 in
theorem scr_look1 (k : Int) (he : Entered f) (hc : w.cell? ⟨h, 0, none⟩ = some (fnV f)) (HC : Calls Tryz.prog f #[p, nv] w fun e w' => e = .returned (.int .i64 k) ∧ Q w') :
   Calls Tryz.prog 153 #[p, nv, .pointer (some ⟨h, 0, none⟩)] w fun e w' => e = .returned (.tuple #[.int .i64 k, ev A 0]) ∧ Q w' := by
 have H := Lib.hid HC; clear HC
 have he2 := he
 unfold Entered at he2
 unfold fnV at hc
 go_enter Tryz.func153, Tryz.ntmps153
 go_wp2_with fail
 refine H.out.mono ?_
 rintro e w1 ⟨rfl, hq⟩
 have HQ := Lib.hid hq; clear hq
 go_wp2_with fail
 go_ret2
 exact ⟨rfl, HQ.out⟩
theorem scr_look2 (h2 : Nat) (k : Int) (hk : I64 k) (hL : ∀ w1, Q w1 → Lw A w1) (hQ : ∀ w1 w2, Q w1 → Below w1.heap.size w1 w2 → Q w2) (he : Entered f) (hc : w.cell? ⟨h, 0, none⟩ = some (closV 153 h2)) (hc2 : w.cell? ⟨h2, 0, none⟩ = some (fnV f)) (HC : Calls Tryz.prog f #[p, nv] w fun e w' => e = .returned (.int .i64 k) ∧ Q w') :
   Calls Tryz.prog 148 #[p, nv, .pointer (some ⟨h, 0, none⟩)] w fun e w' => e = .returned (.tuple #[.string (itoaB k), ev A 0]) ∧ Q w' := by
 have H := Lib.hid (scr_look1 A f h2 p nv w Q k he hc2 HC); clear HC
 unfold closV at hc
 go_enter Tryz.func148, Tryz.ntmps148
 go_wp2_with fail
 refine H.out.mono ?_
 rintro e w1 ⟨rfl, hq⟩
 have HQ := Lib.hid hq; clear hq
 rw [ev_nil]
 go_wp2_with fail
 refine (scr_Itoa A k hk w1 (hL w1 HQ.out)).mono ?_
 rintro e w2 ⟨rfl, hb⟩
 have HQ2 := Lib.hid (hQ _ _ HQ.out hb); clear hb
 go_wp2_with fail
 go_ret2
 exact ⟨rfl, HQ2.out⟩
end
end Go.Proofs.YtajnfkmkombajaaGreatDoor
namespace Go.Proofs.YtajnfkmkombajaaGreatDoor
open Go Go.RowKit Go.Maps Go.WideElems Go.MapKept Go.ChangeMaps
def atStr (k : ByteArray) : List MapEntry → Option Value
 | [] => none
 | e :: es => match e.key with
   | .string s => if k == s then some e.val else atStr k es
   | _ => atStr k es
def StrKeysAll (es : List MapEntry) : Prop := ∀ e ∈ es, ∃ s, e.key = .string s
theorem findNow_str (k : ByteArray) : ∀ (es : List MapEntry) (i : Nat), StrKeysAll es → ∃ r, Instr.findNow .string (.string k) es i = some r ∧ r.map (·.2) = atStr k es
 | [], i, _ => ⟨none, rfl, rfl⟩
 | e :: es, i, h => by
   obtain ⟨s, hs⟩ := h e (by simp)
   obtain ⟨r, h1, h2⟩ := findNow_str k es (i + 1) (fun x hx => h x (List.mem_cons_of_mem _ hx))
   unfold Instr.findNow atStr
   rw [hs]
   simp only [Instr.sameNow]
   cases hk : (k == s) with
   | true => exact ⟨some (i, e.val), rfl, by simp⟩
   | false => exact ⟨r, h1, by simpa using h2⟩
theorem atStr_push (k s : ByteArray) (v : Value) (c : Nat) : ∀ (es : List MapEntry), StrKeysAll es → atStr k (es ++ [⟨.string s, v, c⟩]) = match atStr k es with
   | some x => some x
   | none => if k == s then some v else none
 | [], _ => by
   show atStr k [⟨.string s, v, c⟩] = _
   simp only [atStr]
 | e :: es, h => by
   obtain ⟨t, ht⟩ := h e (by simp)
   have ih := atStr_push k s v c es (fun x hx => h x (List.mem_cons_of_mem _ hx))
   show atStr k (e :: (es ++ _)) = _
   simp only [atStr, ht]
   cases hk : (k == t) with
   | true => simp
   | false => simpa using ih
section
variable {P : Program} {w : World} {t key elem : TypeId} {g clock : Nat} {es : Array MapEntry}
theorem run_lookup_str (ht : P.underlying t = some (.map key elem)) (hk : P.underlying key = some .string) (hg : w.heap[g]? = some (.map es clock)) (hs : StrKeysAll es.toList) {z : Value} (hz : (zeroValue elem).run P w = .ok z w) (k : ByteArray) :
   (Instr.lookup t (.map (some g)) (.string k) true).run P w = .ok (.tuple #[(atStr k es.toList).getD z, .bool (atStr k es.toList).isSome]) w := by
 obtain ⟨r, h1, h2⟩ := findNow_str k es.toList 0 hs
 have hck : ∀ b : Bool, (Instr.checkKey b 10000 key (.string k)).run P w = .ok () w := fun b => by
   unfold Instr.checkKey
   simp [run_underlying hk]
 have hf : (Instr.findKey key (.string k) es.toList).run P w = .ok r w := by
   unfold Instr.findKey
   simp [run_underlying hk, h1]
 cases r with
 | none =>
   have e : atStr k es.toList = none := by simpa using h2.symm
   rw [e]
   simp [Instr.lookup, run_underlying ht, MapKept.run_getObj_map hg, hck, hf, hz, Result.andThen]
 | some p =>
   have e : atStr k es.toList = some p.2 := by simpa using h2.symm
   rw [e]
   simp [Instr.lookup, run_underlying ht, MapKept.run_getObj_map hg, hck, hf, Result.andThen]
theorem run_insert_str (ht : P.underlying t = some (.map key elem)) (hk : P.underlying key = some .string) (hg : w.heap[g]? = some (.map es clock)) (hs : StrKeysAll es.toList) (k : ByteArray) (v : Value) (hn : atStr k es.toList = none) :
   (Instr.mapUpdate t (.map (some g)) (.string k) v).run P w = .ok () (setBlock w g (.map (es.push ⟨.string k, v, clock⟩) (clock + 1))) := by
 obtain ⟨r, h1, h2⟩ := findNow_str k es.toList 0 hs
 have hck : ∀ b : Bool, (Instr.checkKey b 10000 key (.string k)).run P w = .ok () w := fun b => by
   unfold Instr.checkKey
   simp [run_underlying hk]
 have hf : (Instr.findKey key (.string k) es.toList).run P w = .ok r w := by
   unfold Instr.findKey
   simp [run_underlying hk, h1]
 have hr : r = none := by
   rw [hn] at h2
   cases r with
   | none => rfl
   | some p => simp at h2
 subst hr
 simp [Instr.mapUpdate, run_underlying ht, MapKept.run_getObj_map hg, hck, hf, MapKept.run_setObj_map _ hg, Result.andThen, setBlock]
end
end Go.Proofs.YtajnfkmkombajaaGreatDoor
