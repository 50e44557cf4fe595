/-
  The document's chain: who bakes; the ratio; stakes, what is freed.
  The document's picture of stakes.
  The document's chain at the end of a cycle.
-/
import Derived.Test.YtajnfkmkombajaaGreatDoorQSP29
import Derived.Test.YtajnfkmkombajaaGreatDoorQSP31
import Derived.Test.YtajnfkmkombajaaGreatDoorQSP19
import Derived.Deep.RegionWith
import Derived.Deep.RegionHeld3
import Derived.Deep.QuietTactic
import Derived.BigQuiet
import Derived.StillTailTactics
import Derived.Test.YtajnfkmkombajaaGreatDoorQSP25
import Derived.Test.YtajnfkmkombajaaGreatDoorQSP17
import Derived.Deep.DeepCutAuto
import Derived.Deep.CutBlock
import Derived.Deep.LoopGhost
import Derived.Deep.Onto
set_option linter.unusedVariables false
set_option linter.unusedSimpArgs false
set_option linter.unusedVariables false
namespace Go.Proofs.YtajnfkmkombajaaGreatDoor
open Go.RowKit Go.Maps
section
variable (W : World) (F : Nat → Prop) (cb : Nat) (K : RChL) (sd : Nat) (x : CS) (Z : List (List Int)) (w : World)
set_option maxRecDepth 8000 in
theorem refc_ratio (h : RChGo W F cb K sd x Z w) (hx : x.Inv) :
   Calls Tryz.prog 74 #[.pointer (some ⟨cb, 0, none⟩)] w fun e w' => e = .returned (.int .i64 x.ratio) ∧ Dr w w' := by
 have c0 := h.c0; have c1 := h.c1; have p1 := h.ch.purse.c1
 obtain ⟨q0, q1, q2, q3⟩ := CS.staked_le hx
 obtain ⟨L, wv, hL, -, -⟩ := h.ch.st
 have HBD := Lib.hid (sumK_bd q0 q1 q2 q3)
 have HST := Lib.hid (fun k => refs_Staked K.sb L wv x.s w k hL)
 have HR := Lib.hid (ref_RatioOf (sumK x.s 3) x.p.supply w)
 have HV := Lib.hid (show ratioN (sumK x.s 3) x.p.supply = x.ratio from rfl)
 have HSK := Lib.hid (fun k hk => sumK_step x.s k hk)
 clear h hx hL q0 q1 q2 q3
 go_enter Tryz.func74, Tryz.ntmps74
 go_wp2_with fail
 go_loopg [3, 4] 3 (fun g a c wr => ∃ k : Nat, g + k = 3 ∧ c = .int .i64 k ∧ a = .int .i64 (sumK x.s k) ∧ wr = w)
 case atStart => exact ⟨0, rfl, rfl, rfl, rfl⟩
 case round =>
   obtain ⟨k, hg, rfl, rfl, rfl⟩ := hrel
   have HG := Lib.hid hg; clear hg
   by_cases hk : k < 3
   · have b1 := HBD.out k
     have b2 := HBD.out (k + 1)
     rw [HSK.out k hk] at b2
     have HSt := Lib.hid (HSK.out k hk)
     go_wp2_with fail
     refine (HST.out (k : Int)).mono ?_
     rintro e w1 ⟨rfl, rfl⟩
     generalize x.s.staked k = v at *
     generalize sumK x.s k = u at *
     go_wp2_with fail
     have hg := HG.out
     go_roundg (3 - (k + 1))
     case measure => omega
     case rel => exact ⟨k + 1, by omega, by go_num, by rw [HSt.out], rfl⟩
   · have hk3 : k = 3 := by have := HG.out; omega
     subst hk3
     go_wp2_with fail
     refine HR.out.mono ?_
     rintro e w1 ⟨rfl, rfl⟩
     rw [HV.out]
     generalize ratioC (sumK x.s 3) x.p.supply = rc at *
     go_wp2_with fail
     go_ret
     exact ⟨rfl, Dr.refl _⟩
set_option maxRecDepth 8000 in
set_option maxHeartbeats 4000000 in
theorem refc_Turn (r : Int) (h : RChGo W F cb K sd x Z w) (hx : x.Inv) (hz : PicsOf x Z) (hs : sd < 18446744073709551616) :
   Calls Tryz.prog 25 #[.pointer (some ⟨cb, 0, none⟩), .int .i64 r] w fun e w' => e = .returned (.tuple #[.int .i64 (x.turnV sd r), .agg #[.int .i64 (x.turnC r), .int .i64 (-1)]]) ∧ Below w.heap.size w w' := by
 have c3 := h.c3; have c4 := h.c4; have c5 := h.c5; have c7 := h.c7
 obtain ⟨vs, o1, o2, o3⟩ := h.ch.pics.own
 obtain ⟨ci, hci⟩ := Int.eq_ofNat_of_zero_le hz.cy
 have hln := hz.len
 have hgt := hz.get (k := 0) (by decide)
 rw [Nat.add_zero] at hgt
 rw [hci, Int.toNat_natCast] at hln hgt
 obtain ⟨g, off, cap, hv, hg0, hgl, hcap, hcm, hcell⟩ := o1.cells (by rw [o2, hln]; omega)
 have hv0 : vs[ci]? = some (vs[ci]'(by rw [o2, hln]; omega)) := List.getElem?_eq_getElem _
 obtain ⟨ao, cp, ev0, R, -⟩ := o3 ci _ _ hv0 hgt
 have hc0 := hcell ci (by rw [o2, hln]; omega)
 rw [hv0, ev0] at hc0
 rw [hv, o2, hln] at c7
 have hT : (if x.turnC r = 0 then bakerV (x.pics.getD 0 []) sd x.cycle x.level r else 0) = x.turnV sd r := by
   unfold CS.turnV CS.turnC
   by_cases hr : roundOk x.cycle x.level r
   · rw [if_pos hr, if_pos hr]; rfl
   · rw [if_neg hr, if_neg hr]; rfl
 have HB := Lib.hid (fun wx (hb : Below w.heap.size w wx) => show Calls Tryz.prog 46 #[.slice ao (x.pics.getD 0 []).length cp, .int .u64 sd, .int .i64 x.cycle, .int .i64 x.level, .int .i64 r] wx fun e w' => e = .returned (.tuple #[.int .i64 (x.turnV sd r), .agg #[.int .i64 (x.turnC r), .int .i64 (-1)]]) ∧ Below wx.heap.size wx w' by
   have := ref_BakerOf ao cp (x.pics.getD 0 []) sd hs x.cycle x.level r wx (R.below hb)
   unfold BakerOfPost at this
   rw [turn_fault hx r] at this
   simp only at this
   rw [hT] at this
   exact this)
 rw [hci] at c4 HB
 have hfac : ∀ wx, Below w.heap.size w wx → wx.cell? ⟨cb, 3, none⟩ = some (.int .u64 sd) ∧ wx.cell? ⟨cb, 4, none⟩ = some (.int .i64 (ci : Int)) ∧ wx.cell? ⟨cb, 5, none⟩ = some (.int .i64 x.level) ∧ wx.cell? ⟨cb, 7, none⟩ = some (.slice (some ⟨g, off, none⟩) (ci + 3) cap) ∧ wx.cell? ⟨g, off + ci, none⟩ = some (.slice ao (x.pics.getD 0 []).length cp) := fun wx hb => by
   have hcb := h.ch.row.lt
   exact ⟨by rw [hb.cell (p := ⟨cb, 3, none⟩) hcb]; exact c3, by rw [hb.cell (p := ⟨cb, 4, none⟩) hcb]; exact c4, by rw [hb.cell (p := ⟨cb, 5, none⟩) hcb]; exact c5, by rw [hb.cell (p := ⟨cb, 7, none⟩) hcb]; exact c7, by rw [hb.cell (p := ⟨g, off + ci, none⟩) hgl]; exact hc0⟩
 have HF := Lib.hid hfac
 have hcap3 : ci + 3 ≤ cap := by rw [o2, hln] at hcap; exact hcap
 have hmx : ci + 3 ≤ 9223372036854775807 := by unfold maxLen at hcm; omega
 clear h hx o1 o3 hcell hv hv0 ev0 R hfac hcap o2 hln hgt hz hci hcm hT
 generalize (x.pics.getD 0 []).length = zl at *
 generalize x.turnV sd r = tv at *
 obtain ⟨wb, hwb⟩ : ∃ wb, w.alloc (.cells #[.int .i64 0, .int .i64 0] 65) = wb := ⟨_, rfl⟩
 have B0 : Below w.heap.size w wb := by rw [← hwb]; exact (Below.refl _ _).alloc (Nat.le_refl _) _
 have R0 : RowAt w.heap.size 65 [.int .i64 0, .int .i64 0] wb := by rw [← hwb]; exact RowAt.new _ _ _
 have i0 : (0 : Int) ≤ (ci : Int) := by omega
 have i1 : (ci : Int) < ((ci + 3 : Nat) : Int) := by omega
 generalize ci + 3 = zn at *
 obtain ⟨e3, e4, e5, e7, eg⟩ := HF.out _ B0
 have HB0 := Lib.hid B0; have HR0 := Lib.hid R0
 clear B0 R0
 go_enter Tryz.func25, Tryz.ntmps25
 go_wp2_with fail
 go_region_held3 (fun wx => wx.cell? ⟨cb, 3, none⟩ = some (.int .u64 sd) ∧ wx.cell? ⟨cb, 4, none⟩ = some (.int .i64 (ci : Int)) ∧ wx.cell? ⟨cb, 5, none⟩ = some (.int .i64 x.level) ∧ wx.cell? ⟨cb, 7, none⟩ = some (.slice (some ⟨g, off, none⟩) zn cap) ∧ wx.cell? ⟨g, off + ci, none⟩ = some (.slice ao zl cp)) (first | exact HF.out _ ((H1.out.setCell (p := ⟨w.heap.size, 0, none⟩) (Nat.le_refl _) _).setCell (p := ⟨w.heap.size, 1, none⟩) (Nat.le_refl _) _) | exact HF.out _ H1.out | exact HF.out _ (HB0.out.drewN _) | exact HF.out _ HB0.out)
   ((go_at_call 46; refine (HB.out _ (HB0.out.drewN 1)).mono ?_; rintro y w1 ⟨rfl, hb⟩; have H1 := Lib.hid (btrans (HB0.out.drewN 1) hb); have HR1 := Lib.hid ((HR0.out.drewN 1).below hb HR0.out.lt); have m0 := HR1.out.cell 0; have m1 := HR1.out.cell 1; have m2 := HR1.out.frozen 0; have m3 := HR1.out.frozen 1; simp only [List.getElem?_cons_zero, List.getElem?_cons_succ] at m0 m1))
 all_goals
   go_wp2_with fail
   (try simp only [Exit.inBlock, Exit.then])
   refine bodyPost_ret (v := .tuple #[.int .i64 tv, .agg #[.int .i64 (x.turnC r), .int .i64 (-1)]]) (ret_num_pair rfl _ _ w.heap.size _ _ _ _ _ _ rfl rfl ((HR1.out.set 0 (.int .i64 (x.turnC r))).set 1 (.int .i64 (-1))) Tryz.underlying65 rfl (by kernel_rfl)) rfl ⟨rfl, (H1.out.setCell (p := ⟨w.heap.size, 0, none⟩) (Nat.le_refl _) _).setCell (p := ⟨w.heap.size, 1, none⟩) (Nat.le_refl _) _⟩
set_option maxRecDepth 8000 in
set_option maxHeartbeats 800000 in
theorem refc_Stake (o b N : Int) (h : RChGo W F cb K sd x Z w) :
   Calls Tryz.prog 21 #[.pointer (some ⟨cb, 0, none⟩), .int .i64 o, .int .i64 b, .int .i64 N] w fun e w' => e = .returned (.int .i64 (x.stakeOp o b N).1) ∧ ∃ K', RChGo W F cb K' sd (x.stakeOp o b N).2 Z w' := by
 have c0 := h.c0
 have H0 := Lib.hid h
 have HO := Lib.hid (refp_Out K.pb K.hb x.p o N w h.ch.purse)
 clear h
 by_cases hc : (x.p.outOp o N).1 = 0
 · by_cases hj : (x.s.joinOp o b N).1 = 0
   · have E := Lib.hid (show x.stakeOp o b N = (0, { x with p := (x.p.outOp o N).2, s := (x.s.joinOp o b N).2 }) by unfold CS.stakeOp; rw [if_neg (by simp [hc]), if_neg (by simp [hj])])
     rw [hc] at HO
     have HJ0 := Lib.hid hj
     clear hc hj
     go_enter Tryz.func21, Tryz.ntmps21
     go_wp2_with fail
     refine HO.out.mono ?_
     rintro e w1 ⟨rfl, h⟩
     have H1 := Lib.hid (H0.out.purse h); clear h
     have d1 := H1.out.c1
     go_wp2_with fail
     refine (refs_Join K.sb K.Fs x.s _ o b N H1.out.ch.st).mono ?_
     rintro e w2 ⟨rfl, h⟩
     rw [HJ0.out]
     have H2 := Lib.hid (H1.out.stakes h); clear h
     go_wp2_with fail
     go_ret
     exact ⟨by rw [E.out]; rfl, by rw [E.out]; exact ⟨_, H2.out⟩⟩
   · have E := Lib.hid (show x.stakeOp o b N = ((x.s.joinOp o b N).1, { x with p := ((x.p.outOp o N).2.inOp o N).2, s := (x.s.joinOp o b N).2 }) by unfold CS.stakeOp; rw [if_neg (by simp [hc]), if_pos (by simp [hj])])
     rw [hc] at HO
     have hpos : decide (0 < ((x.s.joinOp o b N).1 : Int)) = true := by simp; omega
     have hpos2 : decide (0 < (x.s.joinOp o b N).1) = true := by simp; omega
     clear hc hj
     generalize hjc : (x.s.joinOp o b N).1 = jc at *
     have HJC := Lib.hid hjc; clear hjc
     go_enter Tryz.func21, Tryz.ntmps21
     go_wp2_with fail
     refine HO.out.mono ?_
     rintro e w1 ⟨rfl, h⟩
     have H1 := Lib.hid (H0.out.purse h); clear h
     have d1 := H1.out.c1
     go_wp2_with fail
     refine (refs_Join K.sb K.Fs x.s _ o b N H1.out.ch.st).mono ?_
     rintro e w2 ⟨rfl, h⟩
     rw [HJC.out]
     have H2 := Lib.hid (H1.out.stakes h); clear h
     have e0 := H2.out.c0
     go_wp2_with fail
     refine (refp_In K.pb K.hb (x.p.outOp o N).2 o N _ H2.out.ch.purse).mono ?_
     rintro e w3 ⟨rfl, h⟩
     have H3 := Lib.hid (H2.out.purse h); clear h
     go_wp2_with fail
     go_ret
     exact ⟨by rw [E.out]; rfl, by rw [E.out]; exact ⟨_, H3.out⟩⟩
 · have hsame := (PS.out_sum (p := x.p) o N).2 hc
   have E := Lib.hid (show x.stakeOp o b N = ((x.p.outOp o N).1, { x with p := (x.p.outOp o N).2 }) by unfold CS.stakeOp; rw [if_pos hc, hsame])
   have hpos : decide (0 < ((x.p.outOp o N).1 : Int)) = true := by simp; omega
   have hpos2 : decide (0 < (x.p.outOp o N).1) = true := by simp; omega
   clear hc hsame
   generalize hjc : (x.p.outOp o N).1 = jc at *
   clear hjc
   go_enter Tryz.func21, Tryz.ntmps21
   go_wp2_with fail
   refine HO.out.mono ?_
   rintro e w1 ⟨rfl, h⟩
   have H1 := Lib.hid (H0.out.purse h); clear h
   go_wp2_with fail
   go_ret
   exact ⟨by rw [E.out]; rfl, by rw [E.out]; exact ⟨_, H1.out⟩⟩
set_option maxRecDepth 8000 in
set_option maxHeartbeats 800000 in
theorem refc_Free (o : Int) (h : RChGo W F cb K sd x Z w) (hW : x.s.W.length ≤ 8000) :
   Calls Tryz.prog 24 #[.pointer (some ⟨cb, 0, none⟩), .int .i64 o] w fun e w' => e = .returned (.tuple #[.int .i64 (x.freeOp o).1, .int .i64 (x.freeOp o).2.1]) ∧ ∃ K', RChGo W F cb K' sd (x.freeOp o).2.2 Z w' := by
 have H0 := Lib.hid h
 have HF := Lib.hid (fun w' (k : Below w.heap.size w w') => refs_Free K.sb K.Fs x.s w' o x.cycle (h.ch.below k).st hW)
 have HG := Lib.hid (fun wx (k : Below w.heap.size w wx) => And.intro (h.below k).c1 (h.below k).c4)
 clear h
 by_cases hc : (x.s.freeOp o x.cycle).2.1 = 0
 · have E := Lib.hid (show x.freeOp o = ((x.s.freeOp o x.cycle).1, (x.p.inOp o (x.s.freeOp o x.cycle).1).1, { x with s := (x.s.freeOp o x.cycle).2.2, p := (x.p.inOp o (x.s.freeOp o x.cycle).1).2 }) by unfold CS.freeOp; rw [if_neg (by simp [hc])])
   rw [hc] at HF
   clear hc
   go_enter Tryz.func24, Tryz.ntmps24
   go_wp2_with fail
   go_region_held3 (fun wx => wx.cell? ⟨cb, 1, none⟩ = some (.pointer (some ⟨K.sb, 0, none⟩)) ∧ wx.cell? ⟨cb, 4, none⟩ = some (.int .i64 x.cycle)) (first | exact ⟨H1.out.c1, H1.out.c4⟩ | exact HG.out _ ((Below.refl _ _).drewN _) | exact HG.out _ (Below.refl _ _))
     ((go_at_call 45; refine (HF.out _ ((Below.refl _ _).drewN 1)).mono ?_; rintro e w1 ⟨rfl, h⟩; have H1 := Lib.hid ((H0.out.drewN 1).stakes h); clear h))
   have d0 := H1.out.c0
   go_wp2_with fail
   refine (refp_In K.pb K.hb x.p o (x.s.freeOp o x.cycle).1 _ H1.out.ch.purse).mono ?_
   rintro e w2 ⟨rfl, h⟩
   have H2 := Lib.hid (H1.out.purse h); clear h
   go_wp2_with fail
   go_ret2
   exact ⟨by rw [E.out]; rfl, by rw [E.out]; exact ⟨_, H2.out⟩⟩
 · have E := Lib.hid (show x.freeOp o = (0, (x.s.freeOp o x.cycle).2.1, { x with s := (x.s.freeOp o x.cycle).2.2 }) by unfold CS.freeOp; rw [if_pos hc])
   have hz0 : (x.s.freeOp o x.cycle).1 = 0 := by
     revert hc; unfold SS.freeOp
     split
     · intro _; rfl
     · split
       · intro h; exact absurd rfl h
       · intro _; rfl
   have hne : (((x.s.freeOp o x.cycle).2.1 : Int) == 0) = false := by simp; omega
   have hne2 : ((x.s.freeOp o x.cycle).2.1 == 0) = false := by simp; omega
   rw [hz0] at HF
   clear hc hz0
   generalize hfc : (x.s.freeOp o x.cycle).2.1 = fc at *
   clear hfc
   go_enter Tryz.func24, Tryz.ntmps24
   go_wp2_with fail
   go_region_held3 (fun wx => wx.cell? ⟨cb, 1, none⟩ = some (.pointer (some ⟨K.sb, 0, none⟩)) ∧ wx.cell? ⟨cb, 4, none⟩ = some (.int .i64 x.cycle)) (first | exact ⟨H1.out.c1, H1.out.c4⟩ | exact HG.out _ ((Below.refl _ _).drewN _) | exact HG.out _ (Below.refl _ _))
     ((go_at_call 45; refine (HF.out _ ((Below.refl _ _).drewN 1)).mono ?_; rintro e w1 ⟨rfl, h⟩; have H1 := Lib.hid ((H0.out.drewN 1).stakes h); clear h))
   go_wp2_with fail
   go_ret2
   exact ⟨by rw [E.out]; rfl, by rw [E.out]; exact ⟨_, H1.out⟩⟩
end
end Go.Proofs.YtajnfkmkombajaaGreatDoor
namespace Go.Proofs.YtajnfkmkombajaaGreatDoor
open Go.RowKit Go.Maps
theorem pic_take (s : SS) {k : Nat} (hk : k < 3) : s.picture.take (k + 1) = s.picture.take k ++ [pic1 (s.staked k)] := by
 match k, hk with
 | 0, _ => rfl
 | 1, _ => rfl
 | 2, _ => rfl
set_option maxRecDepth 8000 in
set_option maxHeartbeats 1000000 in
theorem refs_PictureOf (sb : Nat) (F : Nat → Prop) (s : SS) (w : World) (h : RStAt sb F s w) :
   Calls Tryz.prog 16 #[.pointer (some ⟨sb, 0, none⟩)] w fun e w' => ∃ ao cap, e = .returned (.slice ao 3 cap) ∧ w'.ownsRow w.heap.size 3 1 (.slice ao 3 cap) 3 (s.picture.map (Value.int .i64)) ∧ Below w.heap.size w w' := by
 obtain ⟨i0, hi, hz0, hz1, hz2⟩ := info_parts Tryz.infoInt
 have HS := Lib.hid (fun k wx (hb : Below w.heap.size w wx) => show Calls Tryz.prog 27 #[.pointer (some ⟨sb, 0, none⟩), .int .i64 k] wx fun e w' => e = .returned (.int .i64 (s.staked k)) ∧ wx = w' by
   obtain ⟨L, wv, hL, -, -⟩ := h.below hb
   exact refs_Staked sb L wv s wx k hL)
 have HT := Lib.hid (fun k (hk : k < 3) => pic_take s (k := k) hk)
 clear h
 go_enter Tryz.func16, Tryz.ntmps16
 go_wp2_with fail
 go_loopg [4, 3] 3 (fun g i out wr => ∃ k : Nat, g + k = 3 ∧ i = .int .i64 k ∧ wr.ownsRow w.heap.size 3 1 out k ((s.picture.take k).map (Value.int .i64)) ∧ Below w.heap.size w wr)
 case atStart => exact ⟨0, rfl, rfl, World.ownsRow_nil _ _ _ _, Below.refl _ _⟩
 case round =>
   obtain ⟨k, hg, rfl, ho, hb⟩ := hrel
   have HG := Lib.hid hg; have HO := Lib.hid ho; have HB := Lib.hid hb; clear hg ho hb
   by_cases hlt : k < 3
   · have HTK := Lib.hid (HT.out k hlt)
     go_wp2_with fail
     refine (HS.out (k : Int) _ HB.out).mono ?_
     rintro e w1 ⟨rfl, rfl⟩
     generalize s.staked k = v at *
     have hsz := HB.out.size
     have hcases : (v < 100 ∧ pic1 v = 0) ∨ (100 ≤ v ∧ v ≤ 1073741824 ∧ pic1 v = v) ∨ (100 ≤ v ∧ 1073741824 < v ∧ pic1 v = 1073741824) := by
       unfold pic1
       by_cases h1 : v < 100
       · exact .inl ⟨h1, if_pos h1⟩
       · by_cases h2 : 1073741824 < v
         · exact .inr (.inr ⟨by omega, h2, by rw [if_neg h1, if_pos h2]⟩)
         · exact .inr (.inl ⟨by omega, by omega, by rw [if_neg h1, if_neg h2]⟩)
     rcases hcases with ⟨h1, hp⟩ | ⟨h1, h2, hp⟩ | ⟨h1, h2, hp⟩
     all_goals
       have HP := Lib.hid hp; clear hp
       go_wp2_with (at_builtin; refine wpList_append_own _ rfl (.tmp 17) (.tmp 19) 28 rfl w.heap.size 3 i0 (.int .i64 0) 1 8 Tryz.underlying28 hi hz0 hz1 hz2 rfl (by decide) u3 k ((s.picture.take k).map (Value.int .i64)) rfl (HO.out.alloc _) ⟨_, 0, none⟩ 1 1 [.int .i64 _] rfl rfl (cell_one_at _ _ _ _ (by simp)) (ints_oneCell _ [_]) (by unfold maxLen; omega) (by omega) (by simp; omega) ?_)
       intro v' w2 ho2 hg2 _
       have b2 : Below w.heap.size w w2 := Below.grown (HB.out.alloc HB.out.size _) hg2 (by simp; omega) (fun j hj => (HO.out.lt j hj).1)
       have HO2 := Lib.hid (show w2.ownsRow w.heap.size 3 1 v' (k + 1) ((s.picture.take (k + 1)).map (Value.int .i64)) by rw [HTK.out, List.map_append, HP.out, List.map_take]; exact ho2)
       have HB2 := Lib.hid b2
       clear ho2 hg2 b2
       go_wp2_with fail
       have hg := HG.out
       go_roundg (3 - (k + 1))
       case measure => omega
       case rel => exact ⟨k + 1, by omega, by go_num, HO2.out, HB2.out⟩
   · have hk3 : k = 3 := by have := HG.out; omega
     subst hk3
     obtain ⟨ao, cap, hv⟩ := own_shape HO.out
     have ho := HO.out
     rw [hv] at ho
     have HF := Lib.hid ho
     subst hv
     clear ho
     go_wp2_with fail
     go_ret
     exact ⟨ao, cap, rfl, HF.out, HB.out⟩
end Go.Proofs.YtajnfkmkombajaaGreatDoor
namespace Go.Proofs.YtajnfkmkombajaaGreatDoor
open Go.RowKit Go.Maps
section
variable {W w w' w1 w3 : World} {F : Nat → Prop} {cb sd : Nat} {K : RChL} {x y : CS} {Z : List (List Int)} {v : Value} {D : List (Int × EV)}
structure REndS (W : World) (F : Nat → Prop) (cb : Nat) (K : RChL) (sd : Nat) (x : CS) (Z : List (List Int)) (v : Value) (D : List (Int × EV)) (w : World) : Prop where
 go : RChGo W F cb K sd x Z w
 row : w.ownsRow 0 93 4 v D.length (casesE D)
 inK : ∀ g, v.ownBlock = some g → K.Fk g
theorem REndS.below (h : REndS W F cb K sd x Z v D w) (b : Below w.heap.size w w') : REndS W F cb K sd x Z v D w' := ⟨h.go.below b, ownsRow_other h.row (fun g hg => b.block g (h.row.lt g hg).2), h.inK⟩
theorem REndS.purse (h : REndS W F cb K sd x Z v D w) {p : PS} (k : RPurseP K.pb K.hb p w w') : REndS W F cb K sd { x with p := p } Z v D w' :=
 ⟨h.go.purse k, ownsRow_other h.row (fun g hg => k.1.block g (h.row.lt g hg).2 (fun e => (h.go.ch.d1 g e).2.1 (h.inK g hg))), h.inK⟩
theorem REndS.stakes (h : REndS W F cb K sd x Z v D w) {s : SS} (k : RStP K.sb K.Fs s w w') : REndS W F cb (K.withS w w') sd { x with s := s } Z v D w' :=
 ⟨h.go.stakes k, ownsRow_other h.row (fun g hg => k.1.block g (h.row.lt g hg).2 (fun e => (h.go.ch.d2 g e).1 (h.inK g hg))), h.inK⟩
theorem RChGo.pics (h : RChGo W F cb K sd x Z w) {G : Nat → Prop} (k : Keep G w w3) (hG : ∀ b, G b → K.Fp b) {pv2 : Value} {Z2 : List (List Int)} (hp : PicsAt (grownF K.Fp w w3) pv2 Z2 (w3.setCell ⟨cb, 7, none⟩ pv2)) :
   RChGo W F cb { K with Fp := grownF K.Fp w w3, pv := pv2 } sd x Z2 (w3.setCell ⟨cb, 7, none⟩ pv2) := by
 have c := h.ch
 have k5 : Keep (fun b => G b ∨ b = cb) w (w3.setCell ⟨cb, 7, none⟩ pv2) := (k.mono (fun b hb => .inl hb)).setCell (p := ⟨cb, 7, none⟩) (.inl (.inr rfl)) pv2
 have hs : (w3.setCell ⟨cb, 7, none⟩ pv2).heap.size = w3.heap.size := by simp [World.setCell]
 have hcb := c.row.lt
 have hrow : RowAt cb 50 (rchainVs K sd x) w3 := c.row.keep k (fun e => c.d0.2.2.2.2 (hG _ e))
 have far : ∀ b, b = K.pb ∨ b = K.hb → ¬ (G b ∨ b = cb) := fun b hb e => by
   rcases e with e | e
   · exact (c.d1 b hb).2.2 (hG _ e)
   · rcases hb with hb | hb
     · exact c.d0.1 (by rw [← e, hb])
     · exact c.d0.2.1 (by rw [← e, hb])
 refine h.step k5 (fun b hb => ?_) ⟨hrow.set 7 pv2, c.purse.keep k5 (far _ (.inl rfl)) (far _ (.inr rfl)), c.st.keep k5 (fun b hb e => ?_), c.ct.keep k5 (fun b hb e => ?_), hp, fun b hb => ?_, ⟨c.d0.1, c.d0.2.1, c.d0.2.2.1, c.d0.2.2.2.1, ?_⟩, fun b hb => ⟨(c.d1 b hb).1, (c.d1 b hb).2.1, ?_⟩, fun b hb => ⟨(c.d2 b hb).1, ?_⟩, fun b hb => ?_⟩ (fun b hb => ?_)
 · rcases hb with hb | hb
   · exact .inr (.inr (.inr (.inr (.inr (hG b hb)))))
   · exact .inl hb
 · rcases e with e | e
   · exact (c.d2 b hb).2 (hG b e)
   · exact c.d0.2.2.1 (by rw [← e]; exact hb)
 · rcases e with e | e
   · exact c.d3 b hb (hG b e)
   · exact c.d0.2.2.2.1 (by rw [← e]; exact hb)
 · rw [hs]
   rcases hb with hb | hb
   · exact Nat.lt_of_lt_of_le (c.pl b hb) k.size
   · exact hb.2
 · rintro (e | e)
   · exact c.d0.2.2.2.2 e
   · omega
 · have hlt := c.purse.two hb
   rintro (e | e)
   · exact (c.d1 b hb).2.2 e
   · have := e.1; omega
 · rintro (e | e)
   · exact (c.d2 b hb).2 e
   · have := c.st.lt b hb; omega
 · rintro (e | e)
   · exact c.d3 b hb e
   · have := c.ct.lt b hb; omega
 · rcases hb with hb | hb | hb | hb | hb | hb
   · exact .inl (.inl hb)
   · exact .inl (.inr (.inl hb))
   · exact .inl (.inr (.inr (.inl hb)))
   · exact .inl (.inr (.inr (.inr (.inl hb))))
   · exact .inl (.inr (.inr (.inr (.inr (.inl hb)))))
   · rcases hb with hb | hb
     · exact .inl (.inr (.inr (.inr (.inr (.inr hb)))))
     · exact .inr ⟨hb.1, by rw [hs]; exact hb.2⟩
end
theorem RChGo.like {W w : World} {F : Nat → Prop} {cb sd : Nat} {K : RChL} {x y : CS} {Z : List (List Int)} (h : RChGo W F cb K sd x Z w) (h1 : y.p = x.p) (h2 : y.s = x.s) (h3 : y.k = x.k) (h4 : y.cycle = x.cycle) (h5 : y.level = x.level) (h6 : y.bonus = x.bonus) : RChGo W F cb K sd y Z w := by
 obtain ⟨a, ⟨b1, b2, b3, b4, b5, b6, b7, b8, b9, b10⟩, c, d⟩ := h
 refine ⟨a, ⟨?_, by rw [h1]; exact b2, by rw [h2]; exact b3, by rw [h3]; exact b4, b5, b6, b7, b8, b9, b10⟩, c, d⟩
 have : rchainVs K sd y = rchainVs K sd x := by unfold rchainVs; rw [h4, h5, h6]
 rw [this]; exact b1
def heavyK (l : List Int) (k : Nat) : Bool := (l.take k).any fun n => decide (0 < n)
theorem heavyK_step {l : List Int} {k : Nat} {n : Int} (h : l[k]? = some n) : heavyK l (k + 1) = (heavyK l k || decide (0 < n)) := by
 unfold heavyK; rw [List.take_add_one, h]; simp
theorem heavyK_pic {s : SS} (h : s.Ok) : heavyK s.picture 3 = false ↔ s.picture = [0, 0, 0] := by
 obtain ⟨h0, h1, h2, _⟩ := SS.staked_bd h
 have p0 := pic1_bd _ h0; have p1 := pic1_bd _ h1; have p2 := pic1_bd _ h2
 unfold heavyK SS.picture
 generalize pic1 (s.staked 0) = a at *
 generalize pic1 (s.staked 1) = b at *
 generalize pic1 (s.staked 2) = c at *
 simp
 omega
theorem CS.endOp_of' {x y : CS} (h : { x.judged with k := x.k.asked } = y) : x.endOp = { y with bonus := bonusN y.bonus y.ratio, cycle := y.cycle + 1, pics := y.pics.drop 1 ++ [y.newPic] } ∧ x.judged.newPic = y.newPic := by subst h; exact ⟨rfl, rfl⟩
section
variable (W : World) (F : Nat → Prop) (cb : Nat) (K : RChL) (sd : Nat) (x : CS) (Z : List (List Int)) (w : World)
set_option maxRecDepth 8000 in
set_option maxHeartbeats 4000000 in
theorem refc_end (h : RChGo W F cb K sd x Z w) (hx : x.Inv) (hz : PicsOf x Z) (hW : x.s.W.length ≤ 8000) (hk : x.k.L.length ≤ 1000000) (hcy : x.cycle ≤ 1048577) :
   Calls Tryz.prog 77 #[.pointer (some ⟨cb, 0, none⟩)] w fun e w' => e = .returned (.tuple #[]) ∧ ∃ K' Z', RChGo W F cb K' sd x.endOp Z' w' ∧ PicsOf x.endOp Z' := by
 have H0 := Lib.hid h
 have HX := Lib.hid hx
 have HPZ := Lib.hid hz
 have c2 := h.c2
 have hdl : x.k.due.length ≤ 1000000 := by unfold KS.due; rw [List.length_drop]; omega
 clear h hx hz
 go_enter Tryz.func77, Tryz.ntmps77
 go_wp2_with fail
 refine (ref_CourtDue K.kb K.Fk x.k _ H0.out.ch.ct hk).mono ?_
 rintro e w1 ⟨v, rfl, ho, hK, hc⟩
 have HS0 := Lib.hid (show REndS W F cb (K.withK w w1) sd { x with k := x.k.asked } Z v x.k.due w1 from
   ⟨H0.out.court ⟨hK, hc.foot (fun _ hb => .inl hb) (grownF_lt (fun _ hb => H0.out.ch.ct.lt _ hb) hK.size)⟩, (show w1.ownsRow 0 93 4 v x.k.due.length (casesE x.k.due) from ⟨ho.1, ho.2.imp id (fun ⟨g, cap, cur, h1, _, h3⟩ => ⟨g, cap, cur, h1, Nat.zero_le _, h3⟩)⟩), fun g hg => .inr (World.ownsRow.lt ho g hg)⟩)
 obtain ⟨va, vc, rfl⟩ := own_shape ho
 clear ho hK hc c2
 go_wp2_with fail
 go_loopg [3] x.k.due.length (fun g i wr => ∃ (j : Nat) (K' : RChL), g + j = x.k.due.length ∧ i = .int .i64 j ∧ REndS W F cb K' sd (x.judgedK j) Z (.slice va x.k.due.length vc) x.k.due wr)
 case atStart => exact ⟨0, _, rfl, rfl, HS0.out⟩
 case round =>
   clear HS0
   obtain ⟨j, K1, hg, rfl, hs⟩ := hrel
   have HS := Lib.hid hs; have HG := Lib.hid hg; clear hs hg
   by_cases hj : j < x.k.due.length
   · obtain ⟨c, hc⟩ : ∃ c, x.k.due[j]? = some c := ⟨_, List.getElem?_eq_getElem hj⟩
     obtain ⟨b7, off7, rfl, hbl7, hcs7⟩ := (RdR.of_row (enc := caseE) (fun _ => rfl) (by decide) HS.out.row).cells j c hc
     have htc := (RdR.of_row (enc := caseE) (fun _ => rfl) (by decide) HS.out.row).lc
     have htm := (RdR.of_row (enc := caseE) (fun _ => rfl) (by decide) HS.out.row).cm
     have HCELL := Lib.hid (fun K' x' wx (hs : REndS W F cb K' sd x' Z (.slice (some ⟨b7, off7, none⟩) x.k.due.length vc) x.k.due wx) => show wx.cell? ⟨b7, off7 + j * 4, none⟩ = some (.int .i64 c.1) ∧ wx.cell? ⟨b7, off7 + j * 4 + 1, none⟩ = some (.int .i64 c.2.b) ∧ wx.cell? ⟨b7, off7 + j * 4 + 2, none⟩ = some (.int .i64 c.2.c) ∧ wx.cell? ⟨b7, off7 + j * 4 + 3, none⟩ = some (.int .i64 c.2.n) by
       obtain ⟨b, off, e, -, hcs⟩ := (RdR.of_row (enc := caseE) (fun _ => rfl) (by decide) hs.row).cells j c hc
       cases e
       exact ⟨hcs 0 (by decide), hcs 1 (by decide), hcs 2 (by decide), hcs 3 (by decide)⟩)
     have HSTEP := Lib.hid (CS.judgedK_step x j c hc)
     have HZ := Lib.hid (CS.judgedK_inv HX.out j)
     have HZW := Lib.hid (show (x.judgedK j).s.W.length ≤ 8000 by rw [CS.judgedK_len]; exact hW)
     have hn0 := (HX.out.known c (List.mem_of_mem_drop (List.mem_of_getElem? hc))).2.2
     obtain ⟨l1, l2, -⟩ := SS.slash_total HZ.out.s c.2.b c.2.c (pct c.2.n)
     have tb := HZ.out.s.total_bd
     have tb2 : (x.judgedK j).s.total ≤ 1125899906842624 := by have := HZ.out.bal; have := HZ.out.p.most; have := HZ.out.p.sum_bd; omega
     have tb3 := (SS.slashOp_ok HZ.out.s c.2.b c.2.c (pct c.2.n)).total_bd.1
     have hlost : 0 ≤ ((x.judgedK j).s.slashOp c.2.b c.2.c (pct c.2.n)).1 ∧ ((x.judgedK j).s.slashOp c.2.b c.2.c (pct c.2.n)).1 ≤ 1125899906842624 := by omega
     have HLO := Lib.hid hlost
     obtain ⟨t0, t1, t2, t3⟩ := HCELL.out _ _ _ HS.out
     clear hcs7 hc l1 l2 tb tb2 tb3 hlost
     generalize x.judgedK j = z at *
     generalize x.k.due.length = dl at *
     unfold maxLen at htm
     have hji : (j : Int) < (dl : Int) := by omega
     have hj0 : (0 : Int) ≤ (j : Int) := by omega
     have em : c.2.n.tmod 2 = c.2.n % 2 := Int.tmod_eq_emod_of_nonneg hn0
     have hcs : ((c.2.n.tmod 2 == 0) = true ∧ (c.2.n % 2 == 0) = true ∧ pct c.2.n = 5) ∨ ((c.2.n.tmod 2 == 0) = false ∧ (c.2.n % 2 == 0) = false ∧ pct c.2.n = 50) := by
       by_cases hm : c.2.n.tmod 2 = 0
       · exact .inl ⟨by simp [hm], by rw [← em]; simp [hm], if_pos hm⟩
       · exact .inr ⟨by simp [hm], by rw [← em]; simp [hm], if_neg hm⟩
     obtain ⟨res, hres⟩ : ∃ res, z.s.slashOp c.2.b c.2.c (pct c.2.n) = res := ⟨_, rfl⟩
     have hlo := HLO.out
     rw [hres] at hlo
     have hjj : z.judge c = { z with s := res.2.2, p := ((z.p.inOp c.1 (res.1 / 7)).2.burnOp (res.1 - res.1 / 7)).2 } := by rw [← hres]; rfl
     have hsl : ∀ wx (_ : REndS W F cb K1 sd z Z (.slice (some ⟨b7, off7, none⟩) dl vc) x.k.due wx), Calls Tryz.prog 134 #[.pointer (some ⟨K1.sb, 0, none⟩), .int .i64 c.2.b, .int .i64 c.2.c, .int .i64 (pct c.2.n)] wx fun e w' => e = .returned (.tuple #[.int .i64 res.1, .int .i64 res.2.1]) ∧ RStP K1.sb K1.Fs res.2.2 wx w' := fun wx hs => by
       have := refs_Slash K1.sb K1.Fs z.s wx c.2.b c.2.c (pct c.2.n) hs.go.ch.st HZW.out
       rw [hres] at this; exact this
     obtain ⟨lost, sc, st⟩ := res
     simp only at hlo hjj hsl
     obtain ⟨ls0, ls1⟩ := hlo
     have dv : lost.tdiv 7 = lost / 7 := Int.tdiv_eq_ediv_of_nonneg ls0
     have hla : 0 ≤ lost / 7 ∧ lost / 7 ≤ lost := by omega
     generalize lost / 7 = la at *
     obtain ⟨la0, la1⟩ := hla
     have hw1 : IntKind.i64.wrap la = la := IntWalk.i64_in _ ⟨by omega, by omega⟩
     have hw2 : IntKind.i64.wrap (lost - la) = lost - la := IntWalk.i64_in _ ⟨by omega, by omega⟩
     have HSL := Lib.hid hsl; have HJ := Lib.hid hjj
     have HSD := Lib.hid (fun i => HS.out.below ((Below.refl _ _).drewN i))
     clear hsl hjj hres ls0 ls1 la0 la1
     have e1 := HS.out.go.c1
     clear em hn0
     rcases hcs with ⟨m1, m2, hp⟩ | ⟨m1, m2, hp⟩
     all_goals
       rw [hp] at HSL
       clear hp
       go_wp2_with fail
       go_region_held3 (fun wx => wx.cell? ⟨cb, 1, none⟩ = some (.pointer (some ⟨K1.sb, 0, none⟩)) ∧ wx.cell? ⟨b7, off7 + j * 4 + 1, none⟩ = some (.int .i64 c.2.b) ∧ wx.cell? ⟨b7, off7 + j * 4 + 2, none⟩ = some (.int .i64 c.2.c)) (first | exact ⟨H1.out.go.c1, (HCELL.out _ _ _ H1.out).2.1, (HCELL.out _ _ _ H1.out).2.2.1⟩ | exact ⟨e1, t1, t2⟩)
         ((go_at_call 134; refine (HSL.out _ (HSD.out 1)).mono ?_; rintro y w2 ⟨rfl, ka⟩; have H1 := Lib.hid ((HSD.out 1).stakes ka)))
       clear e1 t0 t1 t2 t3
       have h1 := H1.out
       generalize K1.withS (World.drewN _ _) _ = K2 at h1
       have HK := Lib.hid h1; clear h1 H1
       have e0 := HK.out.go.c0
       obtain ⟨t0, t1, t2, t3⟩ := HCELL.out _ _ _ HK.out
       have HD1 := Lib.hid (fun i => HK.out.below ((Below.refl _ _).drewN i))
       have HIN := Lib.hid (refp_In K2.pb K2.hb z.p c.1 la _ (HD1.out 1).go.ch.purse)
       go_wp2_with fail
       go_region_held3 (fun wx => wx.cell? ⟨cb, 0, none⟩ = some (.pointer (some ⟨K2.pb, 0, none⟩)) ∧ wx.cell? ⟨b7, off7 + j * 4, none⟩ = some (.int .i64 c.1)) (first | exact ⟨H2.out.go.c0, (HCELL.out _ _ _ H2.out).1⟩ | exact ⟨e0, t0⟩)
         ((go_at_call 40; refine HIN.out.mono ?_; rintro y w3 ⟨rfl, ka⟩; have H2 := Lib.hid ((HD1.out 1).purse ka)))
       clear e0 t0 t1 t2 t3
       have e0 := H2.out.go.c0
       go_wp2_with fail
       refine (refp_Burn K2.pb K2.hb (z.p.inOp c.1 la).2 (lost - la) _ H2.out.go.ch.purse).mono ?_
       rintro y w4 ⟨rfl, ka⟩
       have H3 := Lib.hid (H2.out.purse ka); clear ka
       have HN := Lib.hid (show x.judgedK (j + 1) = { z with s := st, p := ((z.p.inOp c.1 la).2.burnOp (lost - la)).2 } by rw [HSTEP.out, HJ.out])
       go_wp2_with fail
       have hg := HG.out
       go_roundg (dl - (j + 1))
       case measure => omega
       case rel => exact ⟨j + 1, _, by omega, by go_num, by rw [HN.out]; exact H3.out⟩
   · have hjd : j = x.k.due.length := by have := HG.out; omega
     have HJA := CS.judgedK_all x
     rw [← hjd] at HJA
     obtain ⟨y, hy⟩ : ∃ y : CS, { x.judged with k := x.k.asked } = y := ⟨_, rfl⟩
     have HY := Lib.hid (CS.endOp_of' hy)
     have hyc : y.cycle = x.cycle := by rw [← hy]; exact (CS.judged_pics x).2
     have hyp : y.pics = x.pics := by rw [← hy]; exact (CS.judged_pics x).1
     rw [hy] at HJA
     have hgo := HS.out.go
     have hinv := CS.judgedK_inv HX.out j
     rw [HJA] at hgo hinv
     have H1 := Lib.hid hgo
     have HI := Lib.hid hinv
     have HYZ := Lib.hid (HPZ.out.same hyc hyp)
     have hdj := HG.out
     rw [← hyc] at hcy
     obtain ⟨ra0, ra1⟩ := CS.ratio_bd hinv
     have hro : rateOk y.ratio y.bonus := ⟨ra0, ra1, hinv.b0, hinv.b1⟩
     clear hgo hinv HS HJA hjd hy hyc hyp ra0 ra1
     have e6 := H1.out.c6
     go_upto_region 11 with fail
     go_cut [79] (fun _ wx => RChGo W F cb K1 sd { y with bonus := bonusN y.bonus y.ratio } Z wx)
     case first =>
       have HRT := Lib.hid (refc_ratio W F cb K1 sd y Z (wr.drewN 1) (H1.out.drewN 1) HI.out)
       go_region_with (first
         | (go_at_call 74; refine HRT.out.mono ?_; rintro e w2 ⟨rfl, d1⟩; have HA := Lib.hid ((H1.out.drewN 1).dr d1); have q6 := HA.out.c6; have f6 := HA.out.ch.row.frozen 6)
         | (go_at_call 136; refine (ref_BonusOf y.bonus y.ratio _ hro).mono ?_; rintro e w3 ⟨rfl, rfl⟩))
       all_goals go_wp2_with fail
       all_goals go_meet
       all_goals (case rel => exact HA.out.put (i := 6) rfl rfl rfl rfl)
     case rest =>
       have H2 := Lib.hid hcut; clear hcut e6 H1
       have e4 := H2.out.c4; have f4 := H2.out.ch.row.frozen 4
       simp only at e4
       have hcy0 := HI.out.cy
       have H3 := Lib.hid (H2.out.put (i := 4) (v := .int .i64 (y.cycle + 1)) (y := { y with bonus := bonusN y.bonus y.ratio, cycle := y.cycle + 1 }) rfl rfl rfl rfl)
       have e1 := H3.out.c1
       go_wp2_with fail
       refine (refs_PictureOf K1.sb K1.Fs y.s _ H3.out.ch.st).mono ?_
       rintro e w2 ⟨pa0, pc0, rfl, hrow, hb2⟩
       obtain ⟨y2, hy2⟩ : ∃ y2 : CS, { y with bonus := bonusN y.bonus y.ratio, cycle := y.cycle + 1 } = y2 := ⟨_, rfl⟩
       have HEQ := Lib.hid (show x.endOp.p = y2.p ∧ x.endOp.s = y2.s ∧ x.endOp.k = y2.k ∧ x.endOp.cycle = y2.cycle ∧ x.endOp.level = y2.level ∧ x.endOp.bonus = y2.bonus by rw [HY.out.1, ← hy2]; exact ⟨rfl, rfl, rfl, rfl, rfl, rfl⟩)
       have h3 := H3.out
       rw [hy2] at h3
       have H3' := Lib.hid h3
       clear h3 hy2 e1 e4 f4 hcy0 H2 H3
       generalize wc.setCell ⟨cb, 4, none⟩ (.int .i64 (y.cycle + 1)) = wx at *
       have H4 := Lib.hid (H3'.out.below hb2)
       have HBW := Lib.hid hb2
       obtain ⟨vs, o1w, o2, o3⟩ := H3'.out.ch.pics.own
       have o1 := o1w.keep (Keep.of_below (F := fun _ => False) hb2) (fun _ _ => id)
       have oblk := H3'.out.ch.pics.blk
       obtain ⟨ci, hci⟩ := Int.eq_ofNat_of_zero_le HYZ.out.cy
       have hzl := HYZ.out.len
       have hz2 := HYZ.out.get (k := 2) (by decide)
       rw [hci, Int.toNat_natCast] at hzl hz2
       have hci2 : ci ≤ 1048577 := by omega
       obtain ⟨g, off, cp, hv, -, hgl, hcp, hcm, hcell⟩ := o1.cells (by rw [o2, hzl]; omega)
       rw [o2, hzl] at hv hcp hcell
       have hvz : vs[ci + 2]? = some (vs[ci + 2]'(by rw [o2, hzl]; omega)) := List.getElem?_eq_getElem _
       obtain ⟨qa, qc, qe, QR, qb⟩ := o3 (ci + 2) _ _ hvz hz2
       have h2c := hcell (ci + 2) (by omega)
       rw [hvz, qe] at h2c
       have e7 := H4.out.c7
       rw [hv] at e7
       have HVV := Lib.hid hv
       have HQ := Lib.hid (And.intro (QR.below hb2) qb); clear QR qb qe
       have HO1 := Lib.hid o1; have HO3 := Lib.hid o3; have HOB := Lib.hid oblk; have HO2 := Lib.hid o2
       have HRD := Lib.hid (RdI.of_own hrow)
       have HPN := Lib.hid (fun a (ha : pa0 = some a) => hrow.lt a.block (by rw [ha]; rfl))
       have HPM := Lib.hid (heavyK_pic HI.out.s)
       have HNP := Lib.hid (show x.judged.newPic = (if y.s.picture = [0, 0, 0] then y.pics.getD 2 [] else y.s.picture) from HY.out.2)
       have HPZL := Lib.hid hzl
       have HPE := Lib.hid HPZ.out.end
       have hpl : y.s.picture.length = 3 := rfl
       have HST := Lib.hid (fun k n (hn : y.s.picture[k]? = some n) => heavyK_step hn)
       have hz3 : heavyK y.s.picture 0 = false := rfl
       clear o1 o1w o2 o3 oblk hrow hv hcell hvz hz2 hzl hb2 HY hcy hci
       generalize y.s.picture = pic at *
       generalize y.pics.getD 2 [] = last at *
       generalize x.judged.newPic = np at *
       go_wp2_with fail
       go_loopg [9, 8] 3 (fun g i hv wr => ∃ k : Nat, g + k = 3 ∧ i = .int .i64 k ∧ hv = .bool (heavyK pic k) ∧ w2 = wr)
       case atStart => exact ⟨0, rfl, rfl, by rw [hz3], rfl⟩
       case round =>
         obtain ⟨k, hg, rfl, rfl, rfl⟩ := hrel
         have HG2 := Lib.hid hg; clear hg
         by_cases hk3 : k < 3
         · obtain ⟨nb, noff, rfl, hcl⟩ := HRD.out.cells k hk3
           obtain ⟨n, hn⟩ : ∃ n, pic[k]? = some n := ⟨_, List.getElem?_eq_getElem (by rw [hpl]; exact hk3)⟩
           rw [List.getD_eq_getElem?_getD, hn] at hcl
           simp only [Option.getD_some] at hcl
           have HS2 := Lib.hid (HST.out k n hn)
           clear hn
           by_cases hn0 : 0 < n
           · have x1 : decide (0 < n) = true := by simp; omega
             rw [x1, Bool.or_true] at HS2
             clear hn0
             go_wp2_with fail
             have hg := HG2.out
             go_roundg (3 - (k + 1))
             case measure => omega
             case rel => exact ⟨k + 1, by omega, by go_num, by rw [HS2.out], by first | rfl | trivial⟩
           · have x1 : decide (0 < n) = false := by simp; omega
             rw [x1, Bool.or_false] at HS2
             clear hn0
             go_wp2_with fail
             have hg := HG2.out
             go_roundg (3 - (k + 1))
             case measure => omega
             case rel => exact ⟨k + 1, by omega, by go_num, by rw [HS2.out], by first | rfl | trivial⟩
         · have hk33 : k = 3 := by have := HG2.out; omega
           subst hk33
           have hx1 : ((ci + 3 : Nat) : Int) - 1 = ((ci + 2 : Nat) : Int) := by omega
           have hx2 : ((ci + 2 : Nat) : Int) < ((ci + 3 : Nat) : Int) := by omega
           have hx3 : (0 : Int) ≤ ((ci + 2 : Nat) : Int) := by omega
           have hzm : ci + 3 ≤ 2000000 := by omega
           have hx4 : IntKind.i64.wrap ((ci + 2 : Nat) : Int) = ((ci + 2 : Nat) : Int) := IntWalk.i64_in _ ⟨by omega, by omega⟩
           generalize ci + 2 = c2 at *
           generalize ci + 3 = c3 at *
           generalize heavyK pic 3 = hvy at *
           go_upto_if 106 with fail
           go_cut [7] (fun p wz => ∃ pa pc d, p = .slice pa np.length pc ∧ wz = w2.drewN d ∧ RdI .i64 w2 pa np.length pc np ∧ ∀ a, pa = some a → (K1.Fp a.block ∨ (wx.heap.size ≤ a.block ∧ a.block < w2.heap.size)) ∧ K1.pv.ownBlock ≠ some a.block)
           case first =>
             by_cases hz : pic = [0, 0, 0]
             · obtain rfl : hvy = false := HPM.out.2 hz
               have HN2 := Lib.hid (show np = last by rw [HNP.out, if_pos hz])
               clear hz
               generalize hql : last.length = ql at h2c
               have HQL := Lib.hid hql
               go_wp2_with fail
               go_quiet (fail)
               go_wp2_with fail
               go_meet
               case rel => exact ⟨qa, qc, nq, by rw [HN2.out, HQL.out], rfl, by rw [HN2.out]; exact HQ.out.1, fun a ha => ⟨.inl (HQ.out.2 a ha).1, (HQ.out.2 a ha).2⟩⟩
             · obtain rfl : hvy = true := by
                 cases hvy with
                 | true => rfl
                 | false => exact absurd (HPM.out.1 rfl) hz
               have HN2 := Lib.hid (show np = pic by rw [HNP.out, if_neg hz])
               clear hz
               go_wp2_with fail
               go_meet
               case rel => exact ⟨pa0, pc0, 0, by rw [HN2.out, hpl], rfl, by rw [HN2.out, hpl]; exact HRD.out, fun a ha => ⟨.inr (HPN.out a ha), fun e => by
                 have h1 := HPN.out a ha
                 have h2 := H3'.out.ch.pl _ (HOB.out _ e)
                 omega⟩⟩
           case rest =>
             obtain ⟨pa, pc, d, rfl, rfl, hR, hab⟩ := hcut
             obtain ⟨i0, hi, hz0, hz1, hz2⟩ := info_parts infoSl
             have HAB := Lib.hid hab; have HRR := Lib.hid hR; clear hab hR
             have HW1 := Lib.hid (fun d (ob : Obj) => OwnSl.alloc (w := w2.drewN d) (show OwnSl 0 28 (.slice (some ⟨g, off, none⟩) c3 cp) vs (w2.drewN d) by have := HO1.out; rw [HVV.out] at this; exact this) ob)
             have hvl : vs.length = c3 := by rw [HO2.out]; exact HPZL.out
             have HVL := Lib.hid hvl
             clear hvl
             generalize hnp : np.length = nl at *
             go_wp2_with (at_builtin; refine wpList_append_sl _ rfl (.tmp 122) (.tmp 124) 48 rfl 0 28 i0 (.slice none 0 0) 24 Tryz.underlying48 hi hz0 hz1 hz2 rfl (.slice (some ⟨g, off, none⟩) c3 cp) vs rfl (HW1.out _ _) ⟨_, 0, none⟩ (.slice pa nl pc) rfl (World.news_of_block (heap_alloc_new _ _)) (by intro u hu; simp at hu; subst hu; rfl) (by rw [HVL.out]; unfold maxLen; omega) (by rw [HVL.out]; omega) (Nat.zero_le _) ?_)
             intro v2 w5 ho5 hg5 hb5
             obtain ⟨za, zc, hv2, -, -⟩ := ho5.shape
             generalize (vs ++ [Value.slice pa nl pc]).length = vn at hv2
             subst hv2
             have hgp : ((w2.drewN d).alloc (Obj.cells #[Value.slice pa nl pc] 28)).grownBy w5 K1.pv.ownBlock := by rw [HVV.out]; exact hg5
             have hw1 : Below wx.heap.size wx ((w2.drewN d).alloc (Obj.cells #[Value.slice pa nl pc] 28)) := (HBW.out.drewN d).alloc HBW.out.size _
             have hpics := PicsAt.appended (vs1 := vs) (u := .slice pa nl pc) (cb := cb) (m := 7) (x := .slice za vn zc) (pics := Z) (z := np) (fun b hb => H3'.out.ch.pl b hb) HOB.out HO2.out HO3.out hw1 hgp ho5
               (by rw [HVV.out]; simpa using hb5) (fun g hg => (ho5.blk hg).2)
               ⟨pa, pc, by rw [hnp], (by
                 have h0 := HRR.out
                 rw [← hnp] at h0
                 exact (h0.below ((Below.refl _ _).drewN d)).below ((Below.refl _ _).alloc (Nat.le_refl _) _)), fun a ha => ⟨(HAB.out a ha).1.imp id (fun h => ⟨h.1, by have := h.2; simp; omega⟩), (HAB.out a ha).2⟩⟩
               H3'.out.ch.d0.2.2.2.2 H3'.out.ch.row.lt
             have hkp : Keep (fun b => K1.pv.ownBlock = some b) wx w5 := (Keep.of_below hw1).grown hgp (fun k hk => .inl hk)
             have hfin := H3'.out.pics hkp (fun b hb => HOB.out b hb) hpics
             have hr5 : RowAt cb 50 (rchainVs K1 sd y2) w5 := H3'.out.ch.row.keep hkp (fun e => H3'.out.ch.d0.2.2.2.2 (HOB.out _ e))
             have m7 : w5.cell? ⟨cb, 7, none⟩ = some K1.pv := hr5.cell 7
             have f7 : w5.frozen? ⟨cb, 7, none⟩ = false := hr5.frozen 7
             obtain ⟨q1, q2, q3, q4, q5, q6⟩ := HEQ.out
             have HFIN := Lib.hid (hfin.like q1 q2 q3 q4 q5 q6)
             clear hgp hw1 hpics hkp hfin hr5 ho5 hg5 hb5 q1 q2 q3 q4 q5 q6
             go_wp2_with fail
             go_end0
             exact ⟨rfl, _, _, HFIN.out, HPE.out⟩
end
end Go.Proofs.YtajnfkmkombajaaGreatDoor
