/-
  The document's chain: who bakes; the ratio; stakes, what is freed.
  The document's picture of stakes.
-/
import Derived.Test.YtajnfkmkombajacGreatDoorQPA32
import Derived.Test.YtajnfkmkombajacGreatDoorQPA34
import Derived.Test.YtajnfkmkombajacGreatDoorQPA21
import Derived.Deep.RegionWith
import Derived.Deep.RegionHeld3
import Derived.Deep.QuietTactic
import Derived.BigQuiet
import Derived.StillTailTactics
import Derived.Test.YtajnfkmkombajacGreatDoorQPA28
import Derived.Test.YtajnfkmkombajacGreatDoorQPA18
set_option linter.unusedVariables false
set_option linter.unusedSimpArgs false
set_option linter.unusedVariables false
namespace Go.Proofs.YtajnfkmkombajacGreatDoor
open Go.RowKit Go.Maps

section
variable (W : World) (F : Nat → Prop) (cb : Nat) (K : RChL) (sd : Nat) (x : CS) (Z : List (List Int)) (w : World)
set_option maxRecDepth 8000 in
theorem refc_ratio (h : RChGo W F cb K sd x Z w) (hx : x.Inv) :
    Calls Tryz.prog 175 #[.pointer (some ⟨cb, 0, none⟩)] w fun e w' => e = .returned (.int .i64 x.ratio) ∧ Dr w w' := by
  have c0 := h.c0; have c1 := h.c1; have p1 := h.ch.purse.c1
  obtain ⟨q0, q1, q2, q3⟩ := CS.staked_le hx
  obtain ⟨L, wv, hL, -, -⟩ := h.ch.st
  have HBD := Lib.hid (sumK_bd q0 q1 q2 q3)
  have HST := Lib.hid (fun k => refs_Staked K.sb L wv x.s w k hL)
  have HR := Lib.hid (ref_RatioOf (sumK x.s 3) x.p.supply w)
  have HV := Lib.hid (show ratioN (sumK x.s 3) x.p.supply = x.ratio from rfl)
  have HSK := Lib.hid (fun k hk => sumK_step x.s k hk)
  clear h hx hL q0 q1 q2 q3
  go_enter Tryz.func175, Tryz.ntmps175
  go_wp2_with fail
  go_loopg [3, 4] 3 (fun g a c wr => ∃ k : Nat, g + k = 3 ∧ c = .int .i64 k ∧ a = .int .i64 (sumK x.s k) ∧ wr = w)
  case atStart => exact ⟨0, rfl, rfl, rfl, rfl⟩
  case round =>
    obtain ⟨k, hg, rfl, rfl, rfl⟩ := hrel
    have HG := Lib.hid hg; clear hg
    by_cases hk : k < 3
    · have b1 := HBD.out k
      have b2 := HBD.out (k + 1)
      rw [HSK.out k hk] at b2
      have HSt := Lib.hid (HSK.out k hk)
      go_wp2_with fail
      refine (HST.out (k : Int)).mono ?_
      rintro e w1 ⟨rfl, rfl⟩
      generalize x.s.staked k = v at *
      generalize sumK x.s k = u at *
      go_wp2_with fail
      have hg := HG.out
      go_roundg (3 - (k + 1))
      case measure => omega
      case rel => exact ⟨k + 1, by omega, by go_num, by rw [HSt.out], rfl⟩
    · have hk3 : k = 3 := by have := HG.out; omega
      subst hk3
      go_wp2_with fail
      refine HR.out.mono ?_
      rintro e w1 ⟨rfl, rfl⟩
      rw [HV.out]
      generalize ratioC (sumK x.s 3) x.p.supply = rc at *
      go_wp2_with fail
      go_ret
      exact ⟨rfl, Dr.refl _⟩

set_option maxRecDepth 8000 in
set_option maxHeartbeats 4000000 in
theorem refc_Turn (r : Int) (h : RChGo W F cb K sd x Z w) (hx : x.Inv) (hz : PicsOf x Z) (hs : sd < 18446744073709551616) :
    Calls Tryz.prog 113 #[.pointer (some ⟨cb, 0, none⟩), .int .i64 r] w fun e w' => e = .returned (.tuple #[.int .i64 (x.turnV sd r), .agg #[.int .i64 (x.turnC r), .int .i64 (-1)]]) ∧ Below w.heap.size w w' := by
  have c3 := h.c3; have c4 := h.c4; have c5 := h.c5; have c7 := h.c7
  obtain ⟨vs, o1, o2, o3⟩ := h.ch.pics.own
  obtain ⟨ci, hci⟩ := Int.eq_ofNat_of_zero_le hz.cy
  have hln := hz.len
  have hgt := hz.get (k := 0) (by decide)
  rw [Nat.add_zero] at hgt
  rw [hci, Int.toNat_natCast] at hln hgt
  obtain ⟨g, off, cap, hv, hg0, hgl, hcap, hcm, hcell⟩ := o1.cells (by rw [o2, hln]; omega)
  have hv0 : vs[ci]? = some (vs[ci]'(by rw [o2, hln]; omega)) := List.getElem?_eq_getElem _
  obtain ⟨ao, cp, ev0, R, -⟩ := o3 ci _ _ hv0 hgt
  have hc0 := hcell ci (by rw [o2, hln]; omega)
  rw [hv0, ev0] at hc0
  rw [hv, o2, hln] at c7
  have hT : (if x.turnC r = 0 then bakerV (x.pics.getD 0 []) sd x.cycle x.level r else 0) = x.turnV sd r := by
    unfold CS.turnV CS.turnC
    by_cases hr : roundOk x.cycle x.level r
    · rw [if_pos hr, if_pos hr]; rfl
    · rw [if_neg hr, if_neg hr]; rfl
  have HB := Lib.hid (fun wx (hb : Below w.heap.size w wx) => show Calls Tryz.prog 178 #[.slice ao (x.pics.getD 0 []).length cp, .int .u64 sd, .int .i64 x.cycle, .int .i64 x.level, .int .i64 r] wx fun e w' => e = .returned (.tuple #[.int .i64 (x.turnV sd r), .agg #[.int .i64 (x.turnC r), .int .i64 (-1)]]) ∧ Below wx.heap.size wx w' by
    have := ref_BakerOf ao cp (x.pics.getD 0 []) sd hs x.cycle x.level r wx (R.below hb)
    unfold BakerOfPost at this
    rw [turn_fault hx r] at this
    simp only at this
    rw [hT] at this
    exact this)
  rw [hci] at c4 HB
  have hfac : ∀ wx, Below w.heap.size w wx → wx.cell? ⟨cb, 3, none⟩ = some (.int .u64 sd) ∧ wx.cell? ⟨cb, 4, none⟩ = some (.int .i64 (ci : Int)) ∧ wx.cell? ⟨cb, 5, none⟩ = some (.int .i64 x.level) ∧ wx.cell? ⟨cb, 7, none⟩ = some (.slice (some ⟨g, off, none⟩) (ci + 3) cap) ∧ wx.cell? ⟨g, off + ci, none⟩ = some (.slice ao (x.pics.getD 0 []).length cp) := fun wx hb => by
    have hcb := h.ch.row.lt
    exact ⟨by rw [hb.cell (p := ⟨cb, 3, none⟩) hcb]; exact c3, by rw [hb.cell (p := ⟨cb, 4, none⟩) hcb]; exact c4, by rw [hb.cell (p := ⟨cb, 5, none⟩) hcb]; exact c5, by rw [hb.cell (p := ⟨cb, 7, none⟩) hcb]; exact c7, by rw [hb.cell (p := ⟨g, off + ci, none⟩) hgl]; exact hc0⟩
  have HF := Lib.hid hfac
  have hcap3 : ci + 3 ≤ cap := by rw [o2, hln] at hcap; exact hcap
  have hmx : ci + 3 ≤ 9223372036854775807 := by unfold maxLen at hcm; omega
  clear h hx o1 o3 hcell hv hv0 ev0 R hfac hcap o2 hln hgt hz hci hcm hT
  generalize (x.pics.getD 0 []).length = zl at *
  generalize x.turnV sd r = tv at *
  obtain ⟨wb, hwb⟩ : ∃ wb, w.alloc (.cells #[.int .i64 0, .int .i64 0] 86) = wb := ⟨_, rfl⟩
  have B0 : Below w.heap.size w wb := by rw [← hwb]; exact (Below.refl _ _).alloc (Nat.le_refl _) _
  have R0 : RowAt w.heap.size 86 [.int .i64 0, .int .i64 0] wb := by rw [← hwb]; exact RowAt.new _ _ _
  have i0 : (0 : Int) ≤ (ci : Int) := by omega
  have i1 : (ci : Int) < ((ci + 3 : Nat) : Int) := by omega
  generalize ci + 3 = zn at *
  obtain ⟨e3, e4, e5, e7, eg⟩ := HF.out _ B0
  have HB0 := Lib.hid B0; have HR0 := Lib.hid R0
  clear B0 R0
  go_enter Tryz.func113, Tryz.ntmps113
  go_wp2_with fail
  go_region_held3 (fun wx => wx.cell? ⟨cb, 3, none⟩ = some (.int .u64 sd) ∧ wx.cell? ⟨cb, 4, none⟩ = some (.int .i64 (ci : Int)) ∧ wx.cell? ⟨cb, 5, none⟩ = some (.int .i64 x.level) ∧ wx.cell? ⟨cb, 7, none⟩ = some (.slice (some ⟨g, off, none⟩) zn cap) ∧ wx.cell? ⟨g, off + ci, none⟩ = some (.slice ao zl cp)) (first | exact HF.out _ ((H1.out.setCell (p := ⟨w.heap.size, 0, none⟩) (Nat.le_refl _) _).setCell (p := ⟨w.heap.size, 1, none⟩) (Nat.le_refl _) _) | exact HF.out _ H1.out | exact HF.out _ (HB0.out.drewN _) | exact HF.out _ HB0.out)
    ((go_at_call 178; refine (HB.out _ (HB0.out.drewN 1)).mono ?_; rintro y w1 ⟨rfl, hb⟩; have H1 := Lib.hid (btrans (HB0.out.drewN 1) hb); have HR1 := Lib.hid ((HR0.out.drewN 1).below hb HR0.out.lt); have m0 := HR1.out.cell 0; have m1 := HR1.out.cell 1; have m2 := HR1.out.frozen 0; have m3 := HR1.out.frozen 1; simp only [List.getElem?_cons_zero, List.getElem?_cons_succ] at m0 m1))
  all_goals
    go_wp2_with fail
    (try simp only [Exit.inBlock, Exit.then])
    refine bodyPost_ret (v := .tuple #[.int .i64 tv, .agg #[.int .i64 (x.turnC r), .int .i64 (-1)]]) (ret_num_pair rfl _ _ w.heap.size _ _ _ _ _ _ rfl rfl ((HR1.out.set 0 (.int .i64 (x.turnC r))).set 1 (.int .i64 (-1))) Tryz.underlying86 rfl (by kernel_rfl)) rfl ⟨rfl, (H1.out.setCell (p := ⟨w.heap.size, 0, none⟩) (Nat.le_refl _) _).setCell (p := ⟨w.heap.size, 1, none⟩) (Nat.le_refl _) _⟩

set_option maxRecDepth 8000 in
set_option maxHeartbeats 800000 in
theorem refc_Stake (o b N : Int) (h : RChGo W F cb K sd x Z w) :
    Calls Tryz.prog 109 #[.pointer (some ⟨cb, 0, none⟩), .int .i64 o, .int .i64 b, .int .i64 N] w fun e w' => e = .returned (.int .i64 (x.stakeOp o b N).1) ∧ ∃ K', RChGo W F cb K' sd (x.stakeOp o b N).2 Z w' := by
  have c0 := h.c0
  have H0 := Lib.hid h
  have HO := Lib.hid (refp_Out K.pb K.hb x.p o N w h.ch.purse)
  clear h
  by_cases hc : (x.p.outOp o N).1 = 0
  · by_cases hj : (x.s.joinOp o b N).1 = 0
    · have E := Lib.hid (show x.stakeOp o b N = (0, { x with p := (x.p.outOp o N).2, s := (x.s.joinOp o b N).2 }) by unfold CS.stakeOp; rw [if_neg (by simp [hc]), if_neg (by simp [hj])])
      rw [hc] at HO
      have HJ0 := Lib.hid hj
      clear hc hj
      go_enter Tryz.func109, Tryz.ntmps109
      go_wp2_with fail
      refine HO.out.mono ?_
      rintro e w1 ⟨rfl, h⟩
      have H1 := Lib.hid (H0.out.purse h); clear h
      have d1 := H1.out.c1
      go_wp2_with fail
      refine (refs_Join K.sb K.Fs x.s _ o b N H1.out.ch.st).mono ?_
      rintro e w2 ⟨rfl, h⟩
      rw [HJ0.out]
      have H2 := Lib.hid (H1.out.stakes h); clear h
      go_wp2_with fail
      go_ret
      exact ⟨by rw [E.out]; rfl, by rw [E.out]; exact ⟨_, H2.out⟩⟩
    · have E := Lib.hid (show x.stakeOp o b N = ((x.s.joinOp o b N).1, { x with p := ((x.p.outOp o N).2.inOp o N).2, s := (x.s.joinOp o b N).2 }) by unfold CS.stakeOp; rw [if_neg (by simp [hc]), if_pos (by simp [hj])])
      rw [hc] at HO
      have hpos : decide (0 < ((x.s.joinOp o b N).1 : Int)) = true := by simp; omega
      have hpos2 : decide (0 < (x.s.joinOp o b N).1) = true := by simp; omega
      clear hc hj
      generalize hjc : (x.s.joinOp o b N).1 = jc at *
      have HJC := Lib.hid hjc; clear hjc
      go_enter Tryz.func109, Tryz.ntmps109
      go_wp2_with fail
      refine HO.out.mono ?_
      rintro e w1 ⟨rfl, h⟩
      have H1 := Lib.hid (H0.out.purse h); clear h
      have d1 := H1.out.c1
      go_wp2_with fail
      refine (refs_Join K.sb K.Fs x.s _ o b N H1.out.ch.st).mono ?_
      rintro e w2 ⟨rfl, h⟩
      rw [HJC.out]
      have H2 := Lib.hid (H1.out.stakes h); clear h
      have e0 := H2.out.c0
      go_wp2_with fail
      refine (refp_In K.pb K.hb (x.p.outOp o N).2 o N _ H2.out.ch.purse).mono ?_
      rintro e w3 ⟨rfl, h⟩
      have H3 := Lib.hid (H2.out.purse h); clear h
      go_wp2_with fail
      go_ret
      exact ⟨by rw [E.out]; rfl, by rw [E.out]; exact ⟨_, H3.out⟩⟩
  · have hsame := (PS.out_sum (p := x.p) o N).2 hc
    have E := Lib.hid (show x.stakeOp o b N = ((x.p.outOp o N).1, { x with p := (x.p.outOp o N).2 }) by unfold CS.stakeOp; rw [if_pos hc, hsame])
    have hpos : decide (0 < ((x.p.outOp o N).1 : Int)) = true := by simp; omega
    have hpos2 : decide (0 < (x.p.outOp o N).1) = true := by simp; omega
    clear hc hsame
    generalize hjc : (x.p.outOp o N).1 = jc at *
    clear hjc
    go_enter Tryz.func109, Tryz.ntmps109
    go_wp2_with fail
    refine HO.out.mono ?_
    rintro e w1 ⟨rfl, h⟩
    have H1 := Lib.hid (H0.out.purse h); clear h
    go_wp2_with fail
    go_ret
    exact ⟨by rw [E.out]; rfl, by rw [E.out]; exact ⟨_, H1.out⟩⟩

set_option maxRecDepth 8000 in
set_option maxHeartbeats 800000 in
theorem refc_Free (o : Int) (h : RChGo W F cb K sd x Z w) (hW : x.s.W.length ≤ 8000) :
    Calls Tryz.prog 110 #[.pointer (some ⟨cb, 0, none⟩), .int .i64 o] w fun e w' => e = .returned (.tuple #[.int .i64 (x.freeOp o).1, .int .i64 (x.freeOp o).2.1]) ∧ ∃ K', RChGo W F cb K' sd (x.freeOp o).2.2 Z w' := by
  have H0 := Lib.hid h
  have HF := Lib.hid (fun w' (k : Below w.heap.size w w') => refs_Free K.sb K.Fs x.s w' o x.cycle (h.ch.below k).st hW)
  have HG := Lib.hid (fun wx (k : Below w.heap.size w wx) => And.intro (h.below k).c1 (h.below k).c4)
  clear h
  by_cases hc : (x.s.freeOp o x.cycle).2.1 = 0
  · have E := Lib.hid (show x.freeOp o = ((x.s.freeOp o x.cycle).1, (x.p.inOp o (x.s.freeOp o x.cycle).1).1, { x with s := (x.s.freeOp o x.cycle).2.2, p := (x.p.inOp o (x.s.freeOp o x.cycle).1).2 }) by unfold CS.freeOp; rw [if_neg (by simp [hc])])
    rw [hc] at HF
    clear hc
    go_enter Tryz.func110, Tryz.ntmps110
    go_wp2_with fail
    go_region_held3 (fun wx => wx.cell? ⟨cb, 1, none⟩ = some (.pointer (some ⟨K.sb, 0, none⟩)) ∧ wx.cell? ⟨cb, 4, none⟩ = some (.int .i64 x.cycle)) (first | exact ⟨H1.out.c1, H1.out.c4⟩ | exact HG.out _ ((Below.refl _ _).drewN _) | exact HG.out _ (Below.refl _ _))
      ((go_at_call 72; refine (HF.out _ ((Below.refl _ _).drewN 1)).mono ?_; rintro e w1 ⟨rfl, h⟩; have H1 := Lib.hid ((H0.out.drewN 1).stakes h); clear h))
    have d0 := H1.out.c0
    go_wp2_with fail
    refine (refp_In K.pb K.hb x.p o (x.s.freeOp o x.cycle).1 _ H1.out.ch.purse).mono ?_
    rintro e w2 ⟨rfl, h⟩
    have H2 := Lib.hid (H1.out.purse h); clear h
    go_wp2_with fail
    go_ret2
    exact ⟨by rw [E.out]; rfl, by rw [E.out]; exact ⟨_, H2.out⟩⟩
  · have E := Lib.hid (show x.freeOp o = (0, (x.s.freeOp o x.cycle).2.1, { x with s := (x.s.freeOp o x.cycle).2.2 }) by unfold CS.freeOp; rw [if_pos hc])
    have hz0 : (x.s.freeOp o x.cycle).1 = 0 := by
      revert hc; unfold SS.freeOp
      split
      · intro _; rfl
      · split
        · intro h; exact absurd rfl h
        · intro _; rfl
    have hne : (((x.s.freeOp o x.cycle).2.1 : Int) == 0) = false := by simp; omega
    have hne2 : ((x.s.freeOp o x.cycle).2.1 == 0) = false := by simp; omega
    rw [hz0] at HF
    clear hc hz0
    generalize hfc : (x.s.freeOp o x.cycle).2.1 = fc at *
    clear hfc
    go_enter Tryz.func110, Tryz.ntmps110
    go_wp2_with fail
    go_region_held3 (fun wx => wx.cell? ⟨cb, 1, none⟩ = some (.pointer (some ⟨K.sb, 0, none⟩)) ∧ wx.cell? ⟨cb, 4, none⟩ = some (.int .i64 x.cycle)) (first | exact ⟨H1.out.c1, H1.out.c4⟩ | exact HG.out _ ((Below.refl _ _).drewN _) | exact HG.out _ (Below.refl _ _))
      ((go_at_call 72; refine (HF.out _ ((Below.refl _ _).drewN 1)).mono ?_; rintro e w1 ⟨rfl, h⟩; have H1 := Lib.hid ((H0.out.drewN 1).stakes h); clear h))
    go_wp2_with fail
    go_ret2
    exact ⟨by rw [E.out]; rfl, by rw [E.out]; exact ⟨_, H1.out⟩⟩
end
end Go.Proofs.YtajnfkmkombajacGreatDoor
namespace Go.Proofs.YtajnfkmkombajacGreatDoor
open Go.RowKit Go.Maps

theorem pic_take (s : SS) {k : Nat} (hk : k < 3) : s.picture.take (k + 1) = s.picture.take k ++ [pic1 (s.staked k)] := by
  match k, hk with
  | 0, _ => rfl
  | 1, _ => rfl
  | 2, _ => rfl
set_option maxRecDepth 8000 in
set_option maxHeartbeats 1000000 in
theorem refs_PictureOf (sb : Nat) (F : Nat → Prop) (s : SS) (w : World) (h : RStAt sb F s w) :
    Calls Tryz.prog 30 #[.pointer (some ⟨sb, 0, none⟩)] w fun e w' => ∃ ao cap, e = .returned (.slice ao 3 cap) ∧ w'.ownsRow w.heap.size 3 1 (.slice ao 3 cap) 3 (s.picture.map (Value.int .i64)) ∧ Below w.heap.size w w' := by
  obtain ⟨i0, hi, hz0, hz1, hz2⟩ := info_parts Tryz.infoInt
  have HS := Lib.hid (fun k wx (hb : Below w.heap.size w wx) => show Calls Tryz.prog 22 #[.pointer (some ⟨sb, 0, none⟩), .int .i64 k] wx fun e w' => e = .returned (.int .i64 (s.staked k)) ∧ wx = w' by
    obtain ⟨L, wv, hL, -, -⟩ := h.below hb
    exact refs_Staked sb L wv s wx k hL)
  have HT := Lib.hid (fun k (hk : k < 3) => pic_take s (k := k) hk)
  clear h
  go_enter Tryz.func30, Tryz.ntmps30
  go_wp2_with fail
  go_loopg [4, 3] 3 (fun g i out wr => ∃ k : Nat, g + k = 3 ∧ i = .int .i64 k ∧ wr.ownsRow w.heap.size 3 1 out k ((s.picture.take k).map (Value.int .i64)) ∧ Below w.heap.size w wr)
  case atStart => exact ⟨0, rfl, rfl, World.ownsRow_nil _ _ _ _, Below.refl _ _⟩
  case round =>
    obtain ⟨k, hg, rfl, ho, hb⟩ := hrel
    have HG := Lib.hid hg; have HO := Lib.hid ho; have HB := Lib.hid hb; clear hg ho hb
    by_cases hlt : k < 3
    · have HTK := Lib.hid (HT.out k hlt)
      go_wp2_with fail
      refine (HS.out (k : Int) _ HB.out).mono ?_
      rintro e w1 ⟨rfl, rfl⟩
      generalize s.staked k = v at *
      have hsz := HB.out.size
      have hcases : (v < 100 ∧ pic1 v = 0) ∨ (100 ≤ v ∧ v ≤ 1073741824 ∧ pic1 v = v) ∨ (100 ≤ v ∧ 1073741824 < v ∧ pic1 v = 1073741824) := by
        unfold pic1
        by_cases h1 : v < 100
        · exact .inl ⟨h1, if_pos h1⟩
        · by_cases h2 : 1073741824 < v
          · exact .inr (.inr ⟨by omega, h2, by rw [if_neg h1, if_pos h2]⟩)
          · exact .inr (.inl ⟨by omega, by omega, by rw [if_neg h1, if_neg h2]⟩)
      rcases hcases with ⟨h1, hp⟩ | ⟨h1, h2, hp⟩ | ⟨h1, h2, hp⟩
      all_goals
        have HP := Lib.hid hp; clear hp
        go_wp2_with (at_builtin; refine wpList_append_own _ rfl (.tmp 17) (.tmp 19) 38 rfl w.heap.size 3 i0 (.int .i64 0) 1 8 Tryz.underlying38 hi hz0 hz1 hz2 rfl (by decide) u3 k ((s.picture.take k).map (Value.int .i64)) rfl (HO.out.alloc _) ⟨_, 0, none⟩ 1 1 [.int .i64 _] rfl rfl (cell_one_at _ _ _ _ (by simp)) (ints_oneCell _ [_]) (by unfold maxLen; omega) (by omega) (by simp; omega) ?_)
        intro v' w2 ho2 hg2 _
        have b2 : Below w.heap.size w w2 := Below.grown (HB.out.alloc HB.out.size _) hg2 (by simp; omega) (fun j hj => (HO.out.lt j hj).1)
        have HO2 := Lib.hid (show w2.ownsRow w.heap.size 3 1 v' (k + 1) ((s.picture.take (k + 1)).map (Value.int .i64)) by rw [HTK.out, List.map_append, HP.out, List.map_take]; exact ho2)
        have HB2 := Lib.hid b2
        clear ho2 hg2 b2
        go_wp2_with fail
        have hg := HG.out
        go_roundg (3 - (k + 1))
        case measure => omega
        case rel => exact ⟨k + 1, by omega, by go_num, HO2.out, HB2.out⟩
    · have hk3 : k = 3 := by have := HG.out; omega
      subst hk3
      obtain ⟨ao, cap, hv⟩ := own_shape HO.out
      have ho := HO.out
      rw [hv] at ho
      have HF := Lib.hid ho
      subst hv
      clear ho
      go_wp2_with fail
      go_ret
      exact ⟨ao, cap, rfl, HF.out, HB.out⟩
end Go.Proofs.YtajnfkmkombajacGreatDoor
