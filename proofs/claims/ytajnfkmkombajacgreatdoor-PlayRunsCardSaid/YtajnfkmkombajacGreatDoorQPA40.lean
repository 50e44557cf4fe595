/-
  The walk of PlayRuns.
-/
import Derived.Test.YtajnfkmkombajacGreatDoorQPA38
import Derived.Test.YtajnfkmkombajacGreatDoorQPA25
import Derived.Test.YtajnfkmkombajacGreatDoorQPA13
set_option linter.unusedVariables false
set_option linter.unusedSimpArgs false
set_option linter.unusedVariables false
namespace Go.Proofs.YtajnfkmkombajacGreatDoor
open Go.RowKit Go.Maps

/-- an empty script -/
theorem refc_Run_nil (cb : Nat) (ao : Option Addr) (cap : Nat) (w : World) : Calls Tryz.prog 54 #[.pointer (some ⟨cb, 0, none⟩), .slice ao 0 cap] w fun e w' => e = .returned (.slice none 0 0) ∧ w = w' := by
  go_enter Tryz.func54, Tryz.ntmps54
  go_wp2_with fail
  go_loopg [6, 5] 0 (fun g i out wr => i = .int .i64 0 ∧ out = .slice none 0 0 ∧ w = wr)
  case atStart => exact ⟨rfl, rfl, rfl⟩
  case round =>
    obtain ⟨rfl, rfl, rfl⟩ := hrel
    go_wp2_with fail
    go_ret
    exact ⟨rfl, rfl⟩

/-- a play of the document's chain that is new since W: its answers lie at out -/
structure RRan (W w0 : World) (rb : Nat) (R : RChL) (sd : Nat) (y : CS) (Z : List (List Int)) (out : Value) (ans : List Int) (F : Nat → Prop) (w : World) : Prop where
  go : RChGo w0 F rb R sd y Z w
  pic : PicsOf y Z
  own : w.ownsRow w0.heap.size 3 1 out ans.length (ans.map (Value.int .i64))
theorem refc_Ran (W : World) (rb : Nat) (R : RChL) (sd : Nat) (x : CS) (Z : List (List Int)) (w : World) (ao : Option Addr) (cap : Nat) (zs : List Int) (h : RCN W rb R sd x Z w) (hz : PicsOf x Z) (hq : PlayQ 0 x) (R0 : RdI .i64 W ao zs.length cap zs)
    (hwf : ∀ v ∈ zs, v ≤ 9223372036854775807) (hl : zs.length ≤ 600) (hs : sd < 18446744073709551616) :
    Calls Tryz.prog 54 #[.pointer (some ⟨rb, 0, none⟩), .slice ao zs.length cap] w fun e w' => ∃ out R' Z', e = .returned out ∧ RRan W w rb R' sd (x.runS sd zs) Z' out (x.runA sd zs) (R.foot rb) w' := by
  cases zs with
  | nil =>
    refine (refc_Run_nil rb ao cap w).mono ?_
    rintro e w1 ⟨rfl, rfl⟩
    exact ⟨_, R, Z, rfl, h.go, hz, World.ownsRow_nil _ _ _ _⟩
  | cons v l =>
    obtain ⟨b, off, ha, hc⟩ := R0.cells 0 (by simp)
    have hb := World.block_lt_of_cell? W _ hc
    simp only at hb
    refine (refc_Run rb R sd x Z w 0 ao cap (v :: l) h.ch hz hq (R0.below h.below) hwf (fun a e => ?_) (by simpa using hl) hs).mono ?_
    · rw [ha] at e
      cases e
      exact ⟨Nat.lt_of_lt_of_le hb h.below.size, fun hf => by have := h.new _ hf; simp only at this; omega⟩
    · rintro e w1 ⟨out, R', Z', rfl, hP⟩
      exact ⟨out, R', Z', rfl, hP.go, hP.pic, hP.own⟩

set_option maxRecDepth 8000 in
set_option maxHeartbeats 4000000 in
theorem runs_good (A : Nat → Addr) (sd : Nat) (hs : sd < 18446744073709551616) (ao : Option Addr) (len cap : Nat) (zs : List Int) (w : World) (HS : Sents A w) (R : RdI .i64 w ao len cap zs) (hwf : ∀ v ∈ zs, v ≤ 9223372036854775807) (hl : len ≤ 200) :
    Calls Tryz.prog 10 #[.int .u64 sd, .slice ao len cap] w fun e w' => e = .returned (.bool true) ∧ Below w.heap.size w w' := by
  have m2 : (2 : Nat) ∈ [1, 2, 3, 4, 5, 6, 7, 8, 9, 10] := by decide
  have m4 : (4 : Nat) ∈ [1, 2, 3, 4, 5, 6, 7, 8, 9, 10] := by decide
  have m5 : (5 : Nat) ∈ [1, 2, 3, 4, 5, 6, 7, 8, 9, 10] := by decide
  have m6 : (6 : Nat) ∈ [1, 2, 3, 4, 5, 6, 7, 8, 9, 10] := by decide
  have m7 : (7 : Nat) ∈ [1, 2, 3, 4, 5, 6, 7, 8, 9, 10] := by decide
  have m8 : (8 : Nat) ∈ [1, 2, 3, 4, 5, 6, 7, 8, 9, 10] := by decide
  have HSS := Lib.hid HS; clear HS
  have hzl := R.size
  have HR := Lib.hid R
  have HWF := Lib.hid hwf
  have HZL := Lib.hid hzl
  have d1 : decide ((200 : Int) < (len : Int)) = false := by simp; omega
  clear R hwf hzl
  go_enter Tryz.func10, Tryz.ntmps10
  go_wp2_with fail
  refine (law_played A _ HSS.out).mono ?_
  rintro e w0 ⟨rfl, hb0⟩
  have HB0 := Lib.hid hb0; clear hb0
  have HS0 := Lib.hid (HSS.out.below HB0.out)
  go_wp2_with fail
  refine (chain_New A [1, 2, 3, 4, 5, 6, 7, 8, 9, 10] sd _ HS0.out.errs m2 m4 m5 m6 m7 m8).mono ?_
  rintro e w1 ⟨cb, K, rfl, g1⟩
  have H1 := Lib.hid g1.cn; clear g1
  go_wp2_with fail
  refine (refc_New sd _).mono ?_
  rintro e w2 ⟨rb, Rr, rfl, g2⟩
  have HT := Lib.hid (ctwo_new H1.out g2)
  clear g2 H1
  go_wp2_with fail
  refine (law_OwnInts ao len cap zs _ (HR.out.below (btrans HB0.out HT.out.below)) (by omega)).mono ?_
  rintro e w3 ⟨ob, oc, rfl, ho3, hb3⟩
  have HO3 := Lib.hid ho3
  have HT3 := Lib.hid (HT.out.next hb3)
  have HF3 := Lib.hid (fun x (hx : ob = some x) => show x.block < w3.heap.size ∧ ¬ K.foot cb x.block by
    have := ho3.lt x.block (by rw [hx]; rfl)
    exact ⟨this.2, fun hf => by have := HT.out.law.ch.footlt _ hf; omega⟩)
  clear ho3 hb3
  go_wp2_with fail
  have hpr := play_Run A w0 cb K 3 sd CS.new w3 0 ob oc zs HT3.out.law PlayQ.new (by rw [HZL.out]; exact RdI.of_own HO3.out) HWF.out HF3.out (by have := HZL.out; omega) (by decide) hs HS0.out
  rw [HZL.out] at hpr
  refine hpr.mono ?_
  clear hpr
  rintro e w4 ⟨out1, K1, n1, rfl, hP, hn1⟩
  have HT4 := Lib.hid (HT3.out.lawed hP.go)
  have HOW := Lib.hid (show w4.ownsRow w3.heap.size 3 1 out1 len ((CS.new.runA sd zs).map (Value.int .i64)) by have := hP.own; rw [CS.runA_len, HZL.out] at this; exact this)
  have HSB := Lib.hid (fun g (hg : out1.ownBlock = some g) => show ¬ Rr.foot rb g from fun hf => by have := HT3.out.doc.ch.footlt g hf; have := (hP.own.lt g hg).1; omega)
  have HQ := Lib.hid (PlayQ.run (x := CS.new) sd zs PlayQ.new)
  obtain ⟨o1, oc1, rfl⟩ := own_shape HOW.out
  clear hP hn1 HO3 HF3
  have hrr := refc_Ran w0 rb Rr sd CS.new _ w4 ao cap zs HT4.out.doc HT4.out.pic PlayQ.new (by rw [HZL.out]; exact HR.out.below HB0.out) HWF.out (by have := HZL.out; omega) hs
  rw [HZL.out] at hrr
  go_wp2_with fail
  refine hrr.mono ?_
  clear hrr
  rintro e w5 ⟨out2, R2, Z2, rfl, hQ⟩
  have HT5 := Lib.hid (HT4.out.doced hQ.go hQ.pic)
  have HO5 := Lib.hid (RdI.of_own (ownsRow_other HOW.out (fun g hg => hQ.go.keep.block g (HOW.out.lt g hg).2 (HSB.out g hg)) (w' := w5)))
  have HX5 := Lib.hid (show w5.ownsRow w4.heap.size 3 1 out2 len ((CS.new.runA sd zs).map (Value.int .i64)) by have := hQ.own; rw [CS.runA_len, HZL.out] at this; exact this)
  obtain ⟨o2, oc2, rfl⟩ := own_shape HX5.out
  have HY5 := Lib.hid (RdI.of_own HX5.out)
  clear hQ HSB HOW HX5
  have hqi := HQ.out.inv
  have hqw := HQ.out.w
  have hqc := HQ.out.cy
  have hc0 := hqi.cy
  have HI := Lib.hid hqi; clear hqi
  have hzl := HZL.out
  have HW8 := Lib.hid (show (CS.new.runS sd zs).s.W.length ≤ 8000 by omega)
  have HCW := Lib.hid (show (Lit.int .i64 (CS.new.runS sd zs).cycle).wf = true from WalkArith.wf_i64 (by omega))
  clear hqw hqc hc0 hzl HQ
  generalize CS.new.runS sd zs = z at *
  generalize CS.new.runA sd zs = ans at *
  go_wp2_with fail
  refine (ref_SameInts o1 o2 len oc1 oc2 ans _ HO5.out HY5.out).mono ?_
  rintro e w6 ⟨rfl, hd⟩
  have H6 := Lib.hid (HT5.out.dr hd); clear hd
  go_wp2_with fail
  refine (law3_as A w0 cb K1 n1 rb R2 sd z Z2 _ H6.out HS0.out HW8.out HCW.out).mono ?_
  rintro e w7 ⟨rfl, hb7⟩
  have H7 := Lib.hid (H6.out.next hb7); clear hb7
  go_wp2_with fail
  refine (play_Add A [1, 2, 3, 4, 5, 6, 7, 8, 9, 10] w7 (K1.foot cb) cb K1 n1 sd z w7 H7.out.lgo HI.out HW8.out).mono ?_
  rintro e w8 ⟨rfl, hb8⟩
  have H8 := Lib.hid (H7.out.next hb8); clear hb8
  obtain ⟨wA, hwA⟩ : ∃ wA, w8.alloc (.cells #[.int .i64 (hasK z.p 6), .int .i64 z.s.total, .int .i64 z.p.supply] 71) = wA := ⟨_, rfl⟩
  have RA : RowAt w8.heap.size 71 [.int .i64 (hasK z.p 6), .int .i64 z.s.total, .int .i64 z.p.supply] wA := by rw [← hwA]; exact RowAt.new _ _ _
  have HA := Lib.hid (H8.out.next (show Below w8.heap.size w8 wA by rw [← hwA]; exact (Below.refl _ _).alloc (Nat.le_refl _) _))
  have a0 := RA.cell 0; have a1 := RA.cell 1; have a2 := RA.cell 2
  simp only [List.getElem?_cons_zero, List.getElem?_cons_succ] at a0 a1 a2
  have d0 := HA.out.doc.go.c0; have d1' := HA.out.doc.go.c1
  have p1 := HA.out.doc.ch.purse.c1
  have e6 : hasK z.p 6 = z.p.sum := hasK_all HI.out.p
  have HP1 := Lib.hid (fun j => refp_Sum R2.pb R2.hb z.p (wA.drewN j) (HA.out.doc.ch.purse.drewN j))
  have HP2 := Lib.hid (fun j => (HA.out.drewN j).doc.ch.total HW8.out)
  rw [e6] at a0 hwA ⊢
  have q0 : (z.p.sum == z.p.sum) = true := beq_self_eq_true _
  have q1 : (z.s.total == z.s.total) = true := beq_self_eq_true _
  have q2 : (z.p.supply == z.p.supply) = true := beq_self_eq_true _
  clear RA e6
  generalize z.p.sum = vs at *
  generalize z.s.total = vt at *
  generalize z.p.supply = vp at *
  unfold sumsV
  go_wp2_with fail
  go_quiet ((first
    | (go_at_call 55; exact Calls.quiet_of_same ((HP1.out _).mono fun _ _ ⟨a, b⟩ => ⟨a, b.symm⟩))
    | (go_at_call 18; exact Calls.quiet_of_same ((HP2.out _).mono fun _ _ ⟨a, b⟩ => ⟨a, b.symm⟩))))
  go_wp2_with fail
  go_ret
  exact ⟨rfl, btrans HB0.out (HA.out.drewN _).below⟩

set_option maxRecDepth 8000 in
set_option maxHeartbeats 1000000 in
theorem runs_bad (A : Nat → Addr) (sd : Nat) (ao : Option Addr) (len cap : Nat) (w : World) (HS : Sents A w) (h1 : 200 < len) :
    Calls Tryz.prog 10 #[.int .u64 sd, .slice ao len cap] w fun e w' => e = .returned (.bool true) ∧ Below w.heap.size w w' := by
  have d1 : decide ((200 : Int) < (len : Int)) = true := by simp; omega
  have HSS := Lib.hid HS; clear HS
  clear h1
  go_enter Tryz.func10, Tryz.ntmps10
  go_wp2_with fail
  refine (law_played A _ HSS.out).mono ?_
  rintro e w0 ⟨rfl, hb0⟩
  have HB0 := Lib.hid hb0; clear hb0
  go_wp2_with fail
  go_ret
  exact ⟨rfl, HB0.out⟩
theorem runs_all (A : Nat → Addr) (sd : Nat) (hs : sd < 18446744073709551616) (ao : Option Addr) (len cap : Nat) (zs : List Int) (w : World) (HS : Sents A w) (R : RdI .i64 w ao len cap zs) (hwf : ∀ v ∈ zs, v ≤ 9223372036854775807) :
    Calls Tryz.prog 10 #[.int .u64 sd, .slice ao len cap] w fun e w' => e = .returned (.bool true) ∧ Below w.heap.size w w' := by
  by_cases h1 : len ≤ 200
  · exact runs_good A sd hs ao len cap zs w HS R hwf h1
  · exact runs_bad A sd ao len cap w HS (by omega)
end Go.Proofs.YtajnfkmkombajacGreatDoor
