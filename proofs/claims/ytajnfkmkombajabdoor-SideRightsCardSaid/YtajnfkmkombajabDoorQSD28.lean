/-
  Contracts of package right: Baker.
  Contracts of package right: Rounds.
  Contract of side.Rights$1, alone: a task: the rounds of one level.
  A task of side.Rights in company: the rounds of one level.
  A task of side.Rights in company may be done, whatever the others do.
  A frame in the middle of a function, alone, by the walk of the code that is left. No program in sight.
-/
import Derived.Test.YtajnfkmkombajabDoorQSD27
import Derived.Deep.RegionHeld3
import Derived.Deep.RegionWith
import Derived.Test.YtajnfkmkombajabDoorQSD24
import Derived.Test.YtajnfkmkombajabDoorQSD18
import Derived.Test.YtajnfkmkombajabDoorQSD08
import Derived.Conc.WgGenN3
set_option linter.unusedVariables false
set_option linter.unusedSimpArgs false
namespace Go.Proofs.YtajnfkmkombajabDoor
open Go.RowKit
theorem lotAdv_bd (x : Int) : 0 ≤ lotAdv x ∧ lotAdv x < 18446744073709551616 := by
 unfold lotAdv; rw [IntKind.wrap_u64]; omega
theorem mix1_nat (s n : Int) : ∃ m : Nat, m < 18446744073709551616 ∧ mix1 s n = (m : Int) := by
 unfold mix1
 have hb := lotAdv_bd (bits BinOp.xor IntKind.u64 s (IntKind.u64.wrap n))
 obtain ⟨m, hm⟩ := Int.eq_ofNat_of_zero_le hb.1
 rw [hm] at hb ⊢
 exact ⟨lotN m, lotN_lt m, lotOut_nat m (by omega)⟩
theorem mixL_nat (s : Nat) (hs : s < 18446744073709551616) (l : List Int) : ∃ m : Nat, m < 18446744073709551616 ∧ mixL (s : Int) l = (m : Int) := by
 rcases List.eq_nil_or_concat l with rfl | ⟨l', x, rfl⟩
 · exact ⟨s, hs, rfl⟩
 · rw [List.concat_eq_append, mixL_snoc]; exact mix1_nat _ _
noncomputable def roundSeed (s : Int) (c l r : Int) : Nat := (mixL s [c, l, r]).toNat
noncomputable def bakerV (zs : List Int) (s : Int) (c l r : Int) : Int :=
 pickOf (vose zs) (belowN (roundSeed s c l r) zs.length) (belowN (belowS (roundSeed s c l r) zs.length) zs.sum.toNat : Nat)
def roundOk (c l r : Int) : Prop := (0 ≤ c ∧ c ≤ 1048576) ∧ (0 ≤ l ∧ l ≤ 4194304) ∧ (0 ≤ r ∧ r < 8)
instance (c l r : Int) : Decidable (roundOk c l r) := by unfold roundOk; infer_instance
def bakerF (zs : List Int) (c l r : Int) : Nat × Int := if roundOk c l r then weightsF zs else (2, -1)
def BakerPost (A : Nat → Addr) (zs : List Int) (s c l r : Int) (w : World) (e : Ending) (w' : World) : Prop :=
 ∃ v, e = .returned (.tuple #[.int .i64 (if (bakerF zs c l r).1 = 0 then bakerV zs s c l r else 0), v]) ∧ ErrIs A w w' v (bakerF zs c l r) ∧ Below w.heap.size w w'
theorem bakerV_weight {zs : List Int} (hf : (weightsF zs).1 = 0) (s c l r : Int) : ∃ k : Nat, bakerV zs s c l r = (k : Int) ∧ k < zs.length ∧ 0 < zs.getD k 0 := by
 obtain ⟨_, h1, h64, hz, hs1, hs2⟩ := weights_ok hf
 refine pick_weight (vose_just zs (fun x hx => (hz x hx).1)) (belowN_lt h1) (by omega) ?_
 have := belowN_lt (s := belowS (roundSeed s c l r) zs.length) (n := zs.sum.toNat) (by omega)
 omega
set_option maxRecDepth 8000 in
theorem baker_out (A : Nat → Addr) (S : List Nat) (ao : Option Addr) (len cap : Nat) (zs : List Int) (s c l r : Int) (w : World) (hE : Errs A S w) (h2 : 2 ∈ S) (hr : ¬ roundOk c l r) :
   Calls Tryd.prog 64 #[.slice ao len cap, .int .u64 s, .int .i64 c, .int .i64 l, .int .i64 r] w (BakerPost A zs s c l r w) := by
 have g2 : w.cell? ⟨0, 0, none⟩ = some (.iface 273 (.pointer (some (A 2)))) := hE.cell 2 h2
 have HF := Lib.hid (show bakerF zs c l r = (2, -1) from if_neg hr)
 have hcases : c < 0 ∨ (decide (c < 0) = false ∧ 1048576 < c) ∨ (decide (c < 0) = false ∧ decide (1048576 < c) = false ∧ l < 0) ∨ (decide (c < 0) = false ∧ decide (1048576 < c) = false ∧ decide (l < 0) = false ∧ 4194304 < l) ∨
     (decide (c < 0) = false ∧ decide (1048576 < c) = false ∧ decide (l < 0) = false ∧ decide (4194304 < l) = false ∧ r < 0) ∨ (decide (c < 0) = false ∧ decide (1048576 < c) = false ∧ decide (l < 0) = false ∧ decide (4194304 < l) = false ∧ decide (r < 0) = false ∧ 8 ≤ r) := by
   unfold roundOk at hr
   simp only [decide_eq_false_iff_not]; omega
 clear hE hr
 rcases hcases with h | ⟨d1, h⟩ | ⟨d1, d2, h⟩ | ⟨d1, d2, d3, h⟩ | ⟨d1, d2, d3, d4, h⟩ | ⟨d1, d2, d3, d4, d5, h⟩
 all_goals
   go_enter Tryd.func64, Tryd.ntmps64
   go_wp2_with fail
   go_quiet (fail)
   go_wp2_with fail
   go_ret2
   exact ⟨_, by rw [HF.out]; rfl, by rw [HF.out]; exact .inl ⟨rfl, rfl⟩, (Below.refl _ _).drewN _⟩
set_option maxRecDepth 8000 in
set_option maxHeartbeats 1000000 in
theorem baker_in (A : Nat → Addr) (S : List Nat) (ao : Option Addr) (cap : Nat) (zs : List Int) (s : Nat) (hs : s < 18446744073709551616) (c l r : Int) (w : World) (R : RdI .i64 w ao zs.length cap zs) (hE : Errs A S w) (h2 : 2 ∈ S) (h3 : 3 ∈ S) (h4 : 4 ∈ S) (hr : roundOk c l r) :
   Calls Tryd.prog 64 #[.slice ao zs.length cap, .int .u64 s, .int .i64 c, .int .i64 l, .int .i64 r] w (BakerPost A zs s c l r w) := by
 have hF : bakerF zs c l r = weightsF zs := if_pos hr
 have HF := Lib.hid hF; clear hF
 obtain ⟨⟨c0, c1⟩, ⟨l0, l1⟩, ⟨r0, r1⟩⟩ := hr
 have d1 : decide (c < 0) = false := decide_eq_false (by omega)
 have d2 : decide (1048576 < c) = false := decide_eq_false (by omega)
 have d3 : decide (l < 0) = false := decide_eq_false (by omega)
 have d4 : decide (4194304 < l) = false := decide_eq_false (by omega)
 have d5 : decide (r < 0) = false := decide_eq_false (by omega)
 have d6 : decide (8 ≤ r) = false := decide_eq_false (by omega)
 obtain ⟨m, hm, hmix⟩ := mixL_nat s hs [c, l, r]
 have hseed : roundSeed s c l r = m := by unfold roundSeed; rw [hmix]; rfl
 have hV := fun wx => draw_New A S ao cap zs wx
 have HNew := Lib.hid hV; clear hV
 have HR := Lib.hid R; have HE := Lib.hid hE; have HM := Lib.hid hmix; have HSd := Lib.hid hseed; have HMl := Lib.hid hm
 have HPick := Lib.hid (fun b cb k a wx hd => draw_Pick_in b cb zs k a wx hd)
 have HCols := Lib.hid (fun b cb wx hd => draw_Columns b cb zs wx hd)
 have HHi := Lib.hid (fun b cb wx hd => draw_Height b cb zs wx hd)
 have HVal := Lib.hid (show bakerV zs s c l r = pickOf (vose zs) (belowN m zs.length) (belowN (belowS m zs.length) zs.sum.toNat : Nat) by unfold bakerV; rw [hseed])
 clear R hE hmix hseed hm c0 c1 l0 l1 r0 r1 hs
 generalize hn : zs.length = n at *
 have Hn := Lib.hid hn; clear hn
 generalize hH : zs.sum = H at *
 have HH := Lib.hid hH; clear hH
 go_enter Tryd.func64, Tryd.ntmps64
 go_wp2_with fail
 refine (HNew.out _ HR.out HE.out h2 h3 h4).mono ?_
 rintro e w1 ⟨p, v, rfl, hv, hb1, hp⟩
 rcases hp with ⟨hf, rfl⟩ | ⟨hf, b, cb, rfl, nb, nc, D⟩
 · obtain ⟨t, x, rfl⟩ := hv.no hf
   have HV := Lib.hid hv; have HB := Lib.hid hb1; have Hf := Lib.hid hf
   clear hv hb1 hf
   go_wp2_with fail
   go_ret2
   exact ⟨_, by rw [HF.out, if_neg Hf.out]; rfl, by rw [HF.out]; exact HV.out, HB.out⟩
 · obtain ⟨hwf, hl1, hl64, hz, hs1, hs2⟩ := weights_ok hf
   rw [hwf] at hv
   have hv0 := hv.yes rfl rfl
   subst hv0
   rw [Hn.out] at hl1 hl64
   rw [HH.out] at hs1 hs2
   obtain ⟨h, rfl⟩ := Int.eq_ofNat_of_zero_le (show 0 ≤ H by omega)
   have HZ := Lib.hid (fun x hx => (hz x hx).1)
   have HW := Lib.hid hwf; have HB := Lib.hid hb1; have HD := Lib.hid D
   clear hv hf hwf hz hb1 D
   go_wp2_with fail
   have R3 := RdI.of_rowAt (k := .i64) (zs := [c, l, r]) (RowAt.new w1 3 [.int .i64 c, .int .i64 l, .int .i64 r]) (by unfold maxLen; simp)
   have b2 := HB.out.alloc HB.out.size (.cells #[.int .i64 c, .int .i64 l, .int .i64 r] 3)
   have D2 : DrawAt b cb zs (w1.alloc (.cells #[.int .i64 c, .int .i64 l, .int .i64 r] 3)) := ⟨HD.out.d.alloc _, HD.out.c.alloc _⟩
   refine (lots_Mix (s : Int) _ _ _ [c, l, r] _ R3).mono ?_
   rintro e w2 ⟨rfl, hb2⟩
   rw [HM.out]
   have b3 := btrans b2 hb2
   have D3 := D2.below hb2
   clear R3 b2 D2 hb2
   have HB3 := Lib.hid b3; have HD3 := Lib.hid D3
   clear b3 D3
   go_wp2_with fail
   refine (lots_New (m : Int) _).mono ?_
   rintro e w' ⟨rfl, rfl⟩
   have L4 : LotsAt w2.heap.size m (w2.alloc (.cells #[.int .u64 (m : Int)] 186)) := RowAt.new w2 186 [.int .u64 (m : Int)]
   have b4 := HB3.out.alloc HB3.out.size (.cells #[.int .u64 (m : Int)] 186)
   have D4 : DrawAt b cb zs (w2.alloc (.cells #[.int .u64 (m : Int)] 186)) := ⟨HD3.out.d.alloc _, HD3.out.c.alloc _⟩
   have hbl : b < w2.heap.size := HD3.out.d.lt
   have hcl : cb < w2.heap.size := HD3.out.c.lt
   have HL4 := Lib.hid L4; have HB4 := Lib.hid b4; have HD4 := Lib.hid D4
   clear L4 b4 D4
   go_wp2_with fail
   refine (HCols.out b cb _ HD4.out).mono ?_
   rintro e w' ⟨rfl, rfl⟩
   go_wp2_with fail
   refine (lots_Below_in w2.heap.size m n _ HMl.out hl1 (by omega) HL4.out).mono ?_
   rintro e w5 ⟨rfl, k5, L5⟩
   have D5 := HD4.out.keep k5 (by omega) (by omega)
   have b5 : Below w.heap.size w w5 := Keep.after HB4.out k5 (fun i hi => by have := HB3.out.size; omega)
   have HL5 := Lib.hid L5; have HB5 := Lib.hid b5; have HD5 := Lib.hid D5
   clear L5 b5 D5 k5
   have hlt5 := belowS_lt m n
   have hcol := belowN_lt (s := m) hl1
   have HS5 := Lib.hid hlt5; clear hlt5
   generalize belowS m n = s5 at *
   generalize belowN m n = col at *
   go_wp2_with fail
   refine (HHi.out b cb _ HD5.out).mono ?_
   rintro e w' ⟨rfl, rfl⟩
   go_wp2_with fail
   refine (lots_Below_in w2.heap.size s5 h _ HS5.out (by omega) (by omega) HL5.out).mono ?_
   rintro e w6 ⟨rfl, k6, L6⟩
   have D6 := HD5.out.keep k6 (by omega) (by omega)
   have b6 : Below w.heap.size w w6 := Keep.after HB5.out k6 (fun i hi => by have := HB3.out.size; omega)
   have HB6 := Lib.hid b6; have HD6 := Lib.hid D6
   clear L6 b6 D6 k6
   have hat := belowN_lt (s := s5) (n := h) (by omega)
   rw [Int.toNat_natCast] at HVal
   generalize belowN s5 h = at_ at *
   go_wp2_with fail
   refine (HPick.out b cb col (at_ : Int) _ HD6.out HZ.out hcol (by omega) (by omega)).mono ?_
   rintro e w7 ⟨rfl, nq, rfl⟩
   go_wp2_with fail
   go_ret2
   exact ⟨_, by rw [HF.out, HW.out, HVal.out]; rfl, by rw [HF.out, HW.out]; exact .inl ⟨rfl, rfl⟩, HB6.out.drewN _⟩
theorem right_Baker (A : Nat → Addr) (S : List Nat) (ao : Option Addr) (cap : Nat) (zs : List Int) (s : Nat) (hs : s < 18446744073709551616) (c l r : Int) (w : World) (R : RdI .i64 w ao zs.length cap zs) (hE : Errs A S w) (h2 : 2 ∈ S) (h3 : 3 ∈ S) (h4 : 4 ∈ S) :
   Calls Tryd.prog 64 #[.slice ao zs.length cap, .int .u64 s, .int .i64 c, .int .i64 l, .int .i64 r] w (BakerPost A zs s c l r w) := by
 by_cases hr : roundOk c l r
 · exact baker_in A S ao cap zs s hs c l r w R hE h2 h3 h4 hr
 · exact baker_out A S ao zs.length cap zs s c l r w hE h2 hr
end Go.Proofs.YtajnfkmkombajabDoor
namespace Go.Proofs.YtajnfkmkombajabDoor
open Go.RowKit
noncomputable def roundsV (zs : List Int) (s c l : Int) (k : Nat) : List Int := (List.range k).map fun r : Nat => bakerV zs s c l (r : Int)
theorem roundsV_succ (zs : List Int) (s c l : Int) (k : Nat) : roundsV zs s c l (k + 1) = roundsV zs s c l k ++ [bakerV zs s c l (k : Int)] := by simp [roundsV, List.range_succ]
theorem roundsV_length (zs : List Int) (s c l : Int) (k : Nat) : (roundsV zs s c l k).length = k := by simp [roundsV]
theorem bakerF_round (zs : List Int) (c l : Int) (k : Nat) (hk : k < 8) : bakerF zs c l (k : Int) = bakerF zs c l 0 := by
 have e : roundOk c l (k : Int) ↔ roundOk c l 0 := by unfold roundOk; omega
 unfold bakerF
 by_cases h : roundOk c l (k : Int)
 · rw [if_pos h, if_pos (e.1 h)]
 · rw [if_neg h, if_neg (fun x => h (e.2 x))]
def RoundsPost (A : Nat → Addr) (zs : List Int) (s c l : Int) (w : World) (e : Ending) (w' : World) : Prop :=
 Below w.heap.size w w' ∧ (((bakerF zs c l 0).1 ≠ 0 ∧ ∃ v, e = .returned (.tuple #[.slice none 0 0, v]) ∧ ErrIs A w w' v (bakerF zs c l 0)) ∨
   ((bakerF zs c l 0).1 = 0 ∧ ∃ ao cap, e = .returned (.tuple #[.slice ao 8 cap, .nilIface]) ∧ w'.ownsRow w.heap.size 3 1 (.slice ao 8 cap) 8 ((roundsV zs s c l 8).map (Value.int .i64))))
theorem bakerF_zero {zs : List Int} {c l r : Int} (h : (bakerF zs c l r).1 = 0) : (bakerF zs c l r).2 = -1 ∧ (weightsF zs).1 = 0 := by
 unfold bakerF at h ⊢
 split
 · next hr => rw [if_pos hr] at h; obtain ⟨hw, _⟩ := weights_ok h; rw [hw]; simp
 · next hr => rw [if_neg hr] at h; simp at h
set_option maxRecDepth 8000 in
set_option maxHeartbeats 1000000 in
theorem right_Rounds (A : Nat → Addr) (S : List Nat) (ao : Option Addr) (cap : Nat) (zs : List Int) (s : Nat) (hs : s < 18446744073709551616) (c l : Int) (w : World) (R : RdI .i64 w ao zs.length cap zs) (hE : Errs A S w) (h2 : 2 ∈ S) (h3 : 3 ∈ S) (h4 : 4 ∈ S) :
   Calls Tryd.prog 67 #[.slice ao zs.length cap, .int .u64 s, .int .i64 c, .int .i64 l] w (RoundsPost A zs s c l w) := by
 obtain ⟨i0, hi, hz0, hz1, hz2⟩ := info_parts (show (Tryd.prog.info? 3).map (fun i => (i.zero, i.size, i.bytes)) = some (some (.int .i64 0), 1, 8) by kernel_rfl)
 have HB := Lib.hid (fun r wx (hx : Below w.heap.size w wx) => right_Baker A S ao cap zs s hs c l r wx (R.below hx) (hE.below hx) h2 h3 h4)
 have HRd := Lib.hid (fun k hk => bakerF_round zs c l k hk)
 clear R hE hs
 generalize hn : zs.length = n at *
 clear hn
 go_enter Tryd.func67, Tryd.ntmps67
 go_wp2_with fail
 go_loopg [14, 10] 8 (fun g i out wr => ∃ k : Nat, g + k = 8 ∧ i = .int .i64 k ∧ wr.ownsRow w.heap.size 3 1 out k ((roundsV zs s c l k).map (Value.int .i64)) ∧ Below w.heap.size w wr ∧ (k = 0 ∨ (bakerF zs c l 0).1 = 0))
 case atStart => exact ⟨0, rfl, rfl, World.ownsRow_nil _ _ _ _, Below.refl _ _, .inl rfl⟩
 case round =>
   obtain ⟨k, hg, rfl, hown, hb, hok⟩ := hrel
   have hG := Lib.hid hg; clear hg
   have HOwn := Lib.hid hown; have HBl := Lib.hid hb; have HOk := Lib.hid hok
   clear hown hb hok
   by_cases hlt : k < 8
   · go_wp2_with fail
     refine (HB.out (k : Int) _ HBl.out).mono ?_
     rintro e w1 ⟨v, rfl, hv, hb1⟩
     have hrd := HRd.out k hlt
     rw [hrd] at hv ⊢
     have b1 := btrans HBl.out hb1
     by_cases hf : (bakerF zs c l 0).1 = 0
     · have hv0 := hv.yes hf (bakerF_zero hf).1
       subst hv0
       rw [if_pos hf]
       have own1 : w1.ownsRow w.heap.size 3 1 u10 k ((roundsV zs s c l k).map (Value.int .i64)) := by
         refine HOwn.out.kept (row := none) ⟨hb1.os, hb1.tape, hb1.output, hb1.size, fun i hi' _ => hb1.block i hi'⟩ ?_
         cases hx : Value.ownBlock u10 <;> simp
       have HO1 := Lib.hid own1; have HB1 := Lib.hid b1; have Hf := Lib.hid hf
       have hsz := b1.size
       have hsucc := roundsV_succ zs s c l k
       have HSu := Lib.hid hsucc
       generalize bakerV zs s c l (k : Int) = bv at *
       clear hv hb1 b1 own1 hf hrd hsucc
       go_wp2_with (at_builtin; refine wpList_append_own _ rfl (.tmp 29) (.tmp 31) 51 rfl w.heap.size 3 i0 (.int .i64 0) 1 8 Tryd.underlying51 hi hz0 hz1 hz2 rfl (by decide) u10 k ((roundsV zs s c l k).map (Value.int .i64)) rfl (HO1.out.alloc _) ⟨_, 0, none⟩ 1 1 [.int .i64 bv] rfl rfl (cell_one_at _ _ _ _ (by simp)) (ints_oneCell _ [_]) (by unfold maxLen; omega) (by omega) (by simp; omega) ?_)
       intro v' w2 ho2 hg2 _
       have b2 : Below w.heap.size w w2 := Below.grown (HB1.out.alloc HB1.out.size _) hg2 (by simp; omega) (fun j hj => (HO1.out.lt j hj).1)
       have HO2 := Lib.hid (show w2.ownsRow w.heap.size 3 1 v' (k + 1) ((roundsV zs s c l (k + 1)).map (Value.int .i64)) by rw [HSu.out, List.map_append]; exact ho2)
       have HB2 := Lib.hid b2
       clear ho2 hg2 b2
       go_wp2_with fail
       have hg := hG.out
       go_roundg (8 - (k + 1))
       case measure => omega
       case rel => exact ⟨k + 1, by omega, by go_num, HO2.out, HB2.out, .inr Hf.out⟩
     · obtain ⟨t, x, rfl⟩ := hv.no hf
       rw [if_neg hf]
       have hk0 : k = 0 := HOk.out.resolve_right hf
       subst hk0
       have hfin : RoundsPost A zs s c l w (.returned (.tuple #[.slice none 0 0, .iface t (.pointer (some x))])) w1 := ⟨b1, .inl ⟨hf, _, rfl, hv.since HBl.out.size⟩⟩
       have HFN := Lib.hid hfin
       clear hfin hf hv b1 hb1 hrd
       go_wp2_with fail
       go_ret2
       exact HFN.out
   · have hk8 : k = 8 := by have := hG.out; omega
     subst hk8
     have hf := HOk.out.resolve_left (by decide)
     obtain ⟨ao', cap', hv'⟩ := own_shape HOwn.out
     have ho := HOwn.out
     rw [hv'] at ho
     have hfin : RoundsPost A zs s c l w (.returned (.tuple #[u10, .nilIface])) wr := ⟨HBl.out, .inr ⟨hf, ao', cap', by rw [hv'], ho⟩⟩
     have HFN := Lib.hid hfin
     clear hfin hf ho hv'
     go_wp2_with fail
     go_ret2
     exact HFN.out
end Go.Proofs.YtajnfkmkombajabDoor
namespace Go.Proofs.YtajnfkmkombajabDoor
open Go.RowKit
theorem rounds_two {A : Nat → Addr} {zs : List Int} {s c l : Int} {w w' : World} {e : Ending} (h : RoundsPost A zs s c l w e w') : ∃ vo ve, e = .returned (.tuple #[vo, ve]) := by
 rcases h.2 with ⟨_, v, h, _⟩ | ⟨_, ao, cap, h, _⟩
 · exact ⟨_, _, h⟩
 · exact ⟨_, _, h⟩
theorem RoundsPost.drawn {A : Nat → Addr} {zs : List Int} {s c l : Int} {w w' : World} {e : Ending} (h : RoundsPost A zs s c l (w.drewN 1) e w') : RoundsPost A zs s c l w e w' :=
 ⟨btrans ((Below.refl _ w).drewN 1) h.1, h.2⟩
set_option maxRecDepth 8000 in
set_option maxHeartbeats 1000000 in
theorem rights1 (A : Nat → Addr) (S : List Nat) {ao al : Option Addr} {cap capl : Nat} {zs ls : List Int} {s : Nat} (hs : s < 18446744073709551616) {c : Int} {b5 b6 b7 b8 i : Nat} {w : World} (hi : i < ls.length) (hl : ls.length < 1000000)
   (R : RdI .i64 w ao zs.length cap zs) (RL : RdI .i64 w al ls.length capl ls) (c5 : w.cell? ⟨b5, 0, none⟩ = some (.slice ao zs.length cap)) (c6 : w.cell? ⟨b6, 0, none⟩ = some (.int .u64 s)) (c7 : w.cell? ⟨b7, 0, none⟩ = some (.int .i64 c)) (c8 : w.cell? ⟨b8, 0, none⟩ = some (.slice al ls.length capl))
   (hE : Errs A S w) (h2 : 2 ∈ S) (h3 : 3 ∈ S) (h4 : 4 ∈ S) :
   Calls Tryd.prog 139 #[.int .i64 i, .pointer (some ⟨b5, 0, none⟩), .pointer (some ⟨b6, 0, none⟩), .pointer (some ⟨b7, 0, none⟩), .pointer (some ⟨b8, 0, none⟩)] w (RoundsPost A zs s c (ls.getD i 0) w) := by
 obtain ⟨lb, lo, hal, hlc⟩ := RL.cells i hi
 subst hal
 have i0 : (0 : Int) ≤ (i : Int) := Int.natCast_nonneg _
 have i1 : (i : Int) < (ls.length : Int) := by exact_mod_cast hi
 have HR := Lib.hid (fun (wx : World) (hx : Below w.heap.size w wx) => right_Rounds A S ao cap zs s hs c (ls.getD i 0) wx (R.below hx) (hE.below hx) h2 h3 h4)
 clear R RL hE
 generalize ls.getD i 0 = l at *
 generalize zs.length = n at *
 generalize ls.length = m at *
 go_enter Tryd.func139, Tryd.ntmps139
 go_wp2_with fail
 go_region_held3 (fun wx => wx.cell? ⟨b5, 0, none⟩ = some (.slice ao n cap) ∧ wx.cell? ⟨b6, 0, none⟩ = some (.int .u64 s) ∧ wx.cell? ⟨b7, 0, none⟩ = some (.int .i64 c) ∧ wx.cell? ⟨b8, 0, none⟩ = some (.slice (some ⟨lb, lo, none⟩) m capl) ∧ wx.cell? ⟨lb, lo + i, none⟩ = some (.int .i64 l))
   (first | exact ⟨c5, c6, c7, c8, hlc⟩ | (simp only [World.cell?_drewN]; exact ⟨c5, c6, c7, c8, hlc⟩) | exact H1.out)
   ((go_at_call 67; refine (HR.out _ ((Below.refl _ w).drewN 1)).mono ?_; rintro e w1 hq; obtain ⟨vo, ve, rfl⟩ := rounds_two hq; have hk := hq.1
     have H1 := Lib.hid (show w1.cell? ⟨b5, 0, none⟩ = some (.slice ao n cap) ∧ w1.cell? ⟨b6, 0, none⟩ = some (.int .u64 s) ∧ w1.cell? ⟨b7, 0, none⟩ = some (.int .i64 c) ∧ w1.cell? ⟨b8, 0, none⟩ = some (.slice (some ⟨lb, lo, none⟩) m capl) ∧ w1.cell? ⟨lb, lo + i, none⟩ = some (.int .i64 l) from
       ⟨by rw [hk.cell (p := ⟨b5, 0, none⟩) (World.block_lt_of_cell? _ _ c5)]; exact c5, by rw [hk.cell (p := ⟨b6, 0, none⟩) (World.block_lt_of_cell? _ _ c6)]; exact c6, by rw [hk.cell (p := ⟨b7, 0, none⟩) (World.block_lt_of_cell? _ _ c7)]; exact c7, by rw [hk.cell (p := ⟨b8, 0, none⟩) (World.block_lt_of_cell? _ _ c8)]; exact c8, by rw [hk.cell (p := ⟨lb, lo + i, none⟩) (World.block_lt_of_cell? _ _ hlc)]; exact hlc⟩)
     have HQ := Lib.hid hq.drawn; clear hq hk))
 go_wp2_with fail
 go_ret2
 exact HQ.out
end Go.Proofs.YtajnfkmkombajabDoor
namespace Go.Proofs.YtajnfkmkombajabDoor
open Go Go.Conc
def RowB (n0 : Nat) (W : World) (ao : Option Addr) (cap : Nat) (zs : List Int) : Prop :=
 zs.length ≤ cap ∧ cap ≤ maxLen ∧ (ao = none → cap = 0) ∧ ∀ a, ao = some a → a.off = 0 ∧ a.spot = none ∧ n0 ≤ a.block ∧ ∃ c t, W.heap[a.block]? = some (.cells c t (0, 0)) ∧ ∀ i, i < zs.length → c[i]? = some (.int .i64 (zs.getD i 0))
def rowL (ao : Option Addr) (n : Nat) : List (Nat × Nat) := match ao with | some a => [(a.block, n)] | none => []
theorem RowB.kept {n0 : Nat} {W W1 : World} {ao : Option Addr} {cap : Nat} {zs : List Int} (h : RowB n0 W ao cap zs) (hk : ∀ b n, (b, n) ∈ rowL ao zs.length → W1.heap[b]? = W.heap[b]?) : RowB n0 W1 ao cap zs := by
 refine ⟨h.1, h.2.1, h.2.2.1, fun a ha => ?_⟩
 obtain ⟨h1, h2, h3, c, t, h4, h5⟩ := h.2.2.2 a ha
 exact ⟨h1, h2, h3, c, t, by rw [hk a.block zs.length (by rw [ha]; exact List.mem_singleton.2 rfl)]; exact h4, h5⟩
theorem at_cell {W : World} {b i : Nat} {c : Array Value} {t : TypeId} {f : Nat × Nat} (h : W.heap[b]? = some (.cells c t f)) : W.cell? ⟨b, i, none⟩ = c[i]? := by
 unfold World.cell?
 simp [h]
structure TaskW (n0 : Nat) (A : Nat → Addr) (ao : Option Addr) (cap : Nat) (zs : List Int) (s : Nat) (c : Int) (al : Option Addr) (capl : Nat) (ls : List Int) (b5 b6 b7 b8 : Nat) (W : World) : Prop where
 ini : Init n0 A W
 rw : RowB n0 W ao cap zs
 rl : RowB n0 W al capl ls
 h5 : n0 ≤ b5 ∧ ∃ t, W.heap[b5]? = some (.cells #[.slice ao zs.length cap] t (0, 0))
 h6 : n0 ≤ b6 ∧ ∃ t, W.heap[b6]? = some (.cells #[.int .u64 s] t (0, 0))
 h7 : n0 ≤ b7 ∧ ∃ t, W.heap[b7]? = some (.cells #[.int .i64 c] t (0, 0))
 h8 : n0 ≤ b8 ∧ ∃ t, W.heap[b8]? = some (.cells #[.slice al ls.length capl] t (0, 0))
def taskL (ao : Option Addr) (n : Nat) (al : Option Addr) (m b5 b6 b7 b8 : Nat) : List (Nat × Nat) := (b5, 1) :: (b6, 1) :: (b7, 1) :: (b8, 1) :: (rowL ao n ++ rowL al m)
def taskS (n0 : Nat) (ao : Option Addr) (n : Nat) (al : Option Addr) (m b5 b6 b7 b8 : Nat) (b : Nat) : Prop := b < n0 ∨ ∃ h, (b, h) ∈ taskL ao n al m b5 b6 b7 b8
section
variable {n0 : Nat} {A : Nat → Addr} {ao : Option Addr} {cap : Nat} {zs : List Int} {s : Nat} {c : Int} {al : Option Addr} {capl : Nat} {ls : List Int} {b5 b6 b7 b8 : Nat} {W W1 : World}
theorem TaskW.kept (h : TaskW n0 A ao cap zs s c al capl ls b5 b6 b7 b8 W) (hk : ∀ b, taskS n0 ao zs.length al ls.length b5 b6 b7 b8 b → W1.heap[b]? = W.heap[b]?) (hs : W.heap.size ≤ W1.heap.size) : TaskW n0 A ao cap zs s c al capl ls b5 b6 b7 b8 W1 := by
 have kl : ∀ b n, (b, n) ∈ taskL ao zs.length al ls.length b5 b6 b7 b8 → W1.heap[b]? = W.heap[b]? := fun b n m => hk b (.inr ⟨n, m⟩)
 refine ⟨h.ini.kept (fun b q => hk b (.inl q)) (Nat.le_trans h.ini.size hs), h.rw.kept fun b n m => kl b n ?_, h.rl.kept fun b n m => kl b n ?_, ?_, ?_, ?_, ?_⟩
 · simp [taskL, m]
 · simp [taskL, m]
 · rw [kl b5 1 (by simp [taskL])]; exact h.h5
 · rw [kl b6 1 (by simp [taskL])]; exact h.h6
 · rw [kl b7 1 (by simp [taskL])]; exact h.h7
 · rw [kl b8 1 (by simp [taskL])]; exact h.h8
theorem heap_lt {W : World} {b : Nat} {o : Obj} (h : W.heap[b]? = some o) : b < W.heap.size := (Array.getElem?_eq_some_iff.1 h).1
theorem RowB.lt {n0 : Nat} {W : World} {ao : Option Addr} {cap : Nat} {zs : List Int} (h : RowB n0 W ao cap zs) {b n : Nat} (m : (b, n) ∈ rowL ao zs.length) : b < W.heap.size := by
 cases ao with
 | none => cases m
 | some a =>
   obtain ⟨-, -, -, c, t, h4, -⟩ := h.2.2.2 a rfl
   have : (b, n) = (a.block, zs.length) := List.mem_singleton.1 m
   cases this
   exact heap_lt h4
theorem TaskW.lt (h : TaskW n0 A ao cap zs s c al capl ls b5 b6 b7 b8 W) {b : Nat} (hb : taskS n0 ao zs.length al ls.length b5 b6 b7 b8 b) : b < W.heap.size := by
 rcases hb with q | ⟨n, m⟩
 · have := h.ini.size; omega
 · simp only [taskL, List.mem_cons, Prod.mk.injEq, List.mem_append] at m
   rcases m with ⟨rfl, -⟩ | ⟨rfl, -⟩ | ⟨rfl, -⟩ | ⟨rfl, -⟩ | m | m
   · obtain ⟨-, t, e⟩ := h.h5; exact heap_lt e
   · obtain ⟨-, t, e⟩ := h.h6; exact heap_lt e
   · obtain ⟨-, t, e⟩ := h.h7; exact heap_lt e
   · obtain ⟨-, t, e⟩ := h.h8; exact heap_lt e
   · exact h.rw.lt m
   · exact h.rl.lt m
theorem TaskW.rely (h : TaskW n0 A ao cap zs s c al capl ls b5 b6 b7 b8 W) {M : Nat → Prop} (r : RelyS (taskS n0 ao zs.length al ls.length b5 b6 b7 b8) M W W1) : TaskW n0 A ao cap zs s c al capl ls b5 b6 b7 b8 W1 :=
 h.kept (fun b hb => r.keep b (h.lt hb) (.inl hb)) r.size
def ErrM (A : Nat → Addr) (M : Nat → Prop) (W : World) (v : Value) (f : Nat × Int) : Prop :=
 (f.2 = -1 ∧ v = ev A f.1) ∨ (0 ≤ f.2 ∧ ∃ g : Nat, M g ∧ v = .iface 134 (.pointer (some ⟨g, 0, none⟩)) ∧ ∃ c t, W.heap[g]? = some (.cells c t (0, 0)) ∧ c[0]? = some (.int .i64 f.2) ∧ c[1]? = some (ev A f.1))
def RowM (M : Nat → Prop) (W : World) (v : Value) (xs : List Int) : Prop :=
 ∃ b cap, v = .slice (some ⟨b, 0, none⟩) xs.length cap ∧ xs.length ≤ cap ∧ cap ≤ maxLen ∧ M b ∧ ∃ c t, W.heap[b]? = some (.cells c t (0, 0)) ∧ ∀ i, i < xs.length → c[i]? = some (.int .i64 (xs.getD i 0))
def ResT (n0 : Nat) (A : Nat → Addr) (zs : List Int) (s : Nat) (c : Int) (ls : List Int) (Wg Td : Nat) (i : Nat) (out err : Value) (W : World) (M : Nat → Prop) : Prop :=
 ¬ M Wg ∧ ¬ M Td ∧ (∀ b, M b → n0 ≤ b ∧ b < W.heap.size) ∧ (((bakerF zs c (ls.getD i 0) 0).1 ≠ 0 ∧ out = .slice none 0 0 ∧ ErrM A M W err (bakerF zs c (ls.getD i 0) 0)) ∨
   ((bakerF zs c (ls.getD i 0) 0).1 = 0 ∧ err = .nilIface ∧ RowM M W out (roundsV zs s c (ls.getD i 0) 8)))
theorem ErrM.kept {M : Nat → Prop} {v : Value} {f : Nat × Int} (h : ErrM A M W v f) (hk : ∀ b, M b → W1.heap[b]? = W.heap[b]?) : ErrM A M W1 v f := by
 rcases h with h | ⟨h0, g, hg, hv, r⟩
 · exact .inl h
 · exact .inr ⟨h0, g, hg, hv, by rw [hk g hg]; exact r⟩
theorem RowM.kept {M : Nat → Prop} {v : Value} {xs : List Int} (h : RowM M W v xs) (hk : ∀ b, M b → W1.heap[b]? = W.heap[b]?) : RowM M W1 v xs := by
 obtain ⟨b, cap, h1, h2, h3, h4, r⟩ := h
 exact ⟨b, cap, h1, h2, h3, h4, by rw [hk b h4]; exact r⟩
theorem ErrM.mono {M M' : Nat → Prop} {v : Value} {f : Nat × Int} (h : ErrM A M W v f) (hm : ∀ b, M b → M' b) : ErrM A M' W v f := by
 rcases h with h | ⟨h0, g, hg, hv, r⟩
 · exact .inl h
 · exact .inr ⟨h0, g, hm _ hg, hv, r⟩
theorem RowM.mono {M M' : Nat → Prop} {v : Value} {xs : List Int} (h : RowM M W v xs) (hm : ∀ b, M b → M' b) : RowM M' W v xs := by
 obtain ⟨b, cap, h1, h2, h3, h4, r⟩ := h
 exact ⟨b, cap, h1, h2, h3, hm _ h4, r⟩
theorem ResT.stays {Wg Td i : Nat} {out err : Value} {M S0 : Nat → Prop} (h : ResT n0 A zs s c ls Wg Td i out err W M) (r : RelyS S0 M W W1) : ResT n0 A zs s c ls Wg Td i out err W1 M := by
 obtain ⟨h1, h2, h3, h4⟩ := h
 have hk : ∀ b, M b → W1.heap[b]? = W.heap[b]? := fun b hb => r.keep b (h3 b hb).2 (.inr hb)
 refine ⟨h1, h2, fun b hb => ⟨(h3 b hb).1, Nat.lt_of_lt_of_le (h3 b hb).2 r.size⟩, ?_⟩
 rcases h4 with ⟨a, b, d⟩ | ⟨a, b, d⟩
 · exact .inl ⟨a, b, d.kept hk⟩
 · exact .inr ⟨a, b, d.kept hk⟩
end
theorem row_over {eq : Bool} {ok : Fn → Prop} {ρ : Rho} {F : Foot} {S M : Nat → Prop} {w W : World} {n1 : Nat} {t : TypeId} {v V : Value} {xs : List Int} (hr : HR Tryd.prog ok (F.olds eq) S ρ M w W) (hold : ∀ b, F.has b → b < n1) (hv : VR ok ρ v V) (hne : xs ≠ [])
   (ho : w.ownsRow n1 t 1 v xs.length (xs.map (Value.int .i64))) : RowM M W V xs := by
 obtain ⟨hlen, h⟩ := ho
 rcases h with ⟨-, h0⟩ | ⟨g, cap, cur, rfl, hg, hgw, h1, h2, h3, h4⟩
 · exact absurd (List.length_eq_zero_iff.1 h0) hne
 · cases hv with
   | slice _ _ ha =>
     obtain ⟨B, hB, rfl⟩ := ha
     have hnew : ¬ (F.olds eq).is g := fun q => by have := hold g q; omega
     obtain ⟨o, O, ho, hO, hor⟩ := hr.obj _ _ hB
     rw [hgw] at ho
     cases ho
     have hM := hr.new _ _ hB hnew
     have key : ∀ (C : Array Value) (T : TypeId) (f : Nat × Nat), W.heap[B]? = some (.cells C T f) → (∀ (i : Nat) (u U : Value), cur[i]? = some u → C[i]? = some U → VR ok ρ u U) → cur.size ≤ C.size → RowM M W (.slice (some ⟨B, 0, none⟩) xs.length cap) xs := by
       intro C T f hW hc hsz
       have hf := hr.tight _ _ hB (.inr hnew) _ _ _ hW
       subst hf
       refine ⟨B, cap, rfl, h1, h2, hM, C, T, hW, fun i hi => ?_⟩
       have hcur : cur[i]? = some (.int .i64 (xs.getD i 0)) := by
         have e : (cur.toList.take (xs.length * 1))[i]? = (xs.map (Value.int .i64))[i]? := by rw [h4]
         rw [List.getElem?_take, if_pos (by omega), List.getElem?_map, Array.getElem?_toList] at e
         rw [e]
         simp [List.getD_eq_getElem?_getD, List.getElem?_eq_getElem hi]
       have hci := (Array.getElem?_eq_some_iff.1 hcur).1
       obtain ⟨U, hU⟩ : ∃ U, C[i]? = some U := ⟨_, Array.getElem?_eq_getElem (Nat.lt_of_lt_of_le hci hsz)⟩
       have hvr := hc i _ _ hcur hU
       rw [hU]
       cases hvr
       rfl
     cases hor with
     | cells _ hcs _ => exact key _ _ _ hO hcs.2 (Nat.le_of_eq hcs.1)
     | pre _ hs hx _ => exact key _ _ _ hO hx hs
theorem err_over {ok : Fn → Prop} {ρ : Rho} {n0 : Nat} {A : Nat → Addr} {W0 : World} {l : List (Nat × Nat)} {S M : Nat → Prop} {w0 w W : World} {v V : Value} {f : Nat × Int} (hI : Init n0 A W0) (hr : HR Tryd.prog ok ((footL A l).olds true) S ρ M w W) (he : Ext Tryd.prog (footL A l).rho ρ)
   (hold : ∀ b, (footL A l).has b → b < w0.heap.size) (hf : f.1 ≤ 10) (hv : VR ok ρ v V) (ho : ErrIs A w0 w v f) : ErrM A M W V f := by
 have hev : ∀ U, VR ok ρ (ev A f.1) U → U = ev A f.1 := by
   intro U hU
   by_cases h0 : f.1 = 0
   · rw [h0, ev_nil] at hU ⊢
     cases hU
     rfl
   · rw [ev_some A h0] at hU ⊢
     cases hU with
     | iface t h =>
       rw [vr_ptr_old he (has_sent hI (by omega) hf) h]
 rcases ho with ⟨h1, rfl⟩ | ⟨h0, g, hg, rfl, c0, c1⟩
 · exact .inl ⟨h1, hev V hv⟩
 · refine .inr ⟨h0, ?_⟩
   cases hv with
   | iface t hp =>
     cases hp with
     | ptr ha =>
       obtain ⟨B, hB, rfl⟩ := ha
       have hnew : ¬ ((footL A l).olds true).is g := fun q => by have := hold g q; omega
       obtain ⟨o, O, ho, hO, hor⟩ := hr.obj _ _ hB
       have hM := hr.new _ _ hB hnew
       refine ⟨B, hM, rfl, ?_⟩
       have d0 := hr.cell (a := ⟨g, 0, none⟩) (A := ⟨B, 0, none⟩) ⟨B, hB, rfl⟩ c0
       have d1 := hr.cell (a := ⟨g, 1, none⟩) (A := ⟨B, 1, none⟩) ⟨B, hB, rfl⟩ c1
       obtain ⟨U0, e0, v0⟩ := d0
       obtain ⟨U1, e1, v1⟩ := d1
       obtain ⟨C, T, F, hW⟩ : ∃ C T F, W.heap[B]? = some (.cells C T F) := by
         cases hor with
         | cells => exact ⟨_, _, _, hO⟩
         | pre => exact ⟨_, _, _, hO⟩
         | number | map | iterNil | iter => unfold World.cell? at e0; simp only [hO] at e0; cases e0
       have hF := hr.tight _ _ hB (.inr hnew) _ _ _ hW
       subst hF
       rw [at_cell hW] at e0 e1
       refine ⟨C, T, hW, ?_, ?_⟩
       · rw [e0]; cases v0; rfl
       · rw [e1, hev _ v1]
end Go.Proofs.YtajnfkmkombajabDoor
namespace Go.Proofs.YtajnfkmkombajabDoor
open Go Go.Conc
theorem has_sub {n0 : Nat} {A : Nat → Addr} {W : World} {l : List (Nat × Nat)} {b : Nat} (hI : Init n0 A W) (h : (footL A l).has b) : b < n0 ∨ ∃ n, (b, n) ∈ l := by
 have hlow := hI.low
 have : 13 = 13 ∨ True := .inr trivial
 unfold Foot.has footL at h
 simp only at h
 split at h
 · next q => left; have : (11 : Nat) ≤ 13 := by decide
             omega
 · split at h
   · next q => left; omega
   · split at h
     · next q =>
       obtain ⟨c, h1, h2, rfl⟩ := sentB_iff.1 q
       exact .inl (hI.sob c h1 h2).1
     · right
       unfold xKind at h
       split at h
       · next q =>
         rw [List.any_eq_true] at q
         obtain ⟨⟨b', n⟩, m, e⟩ := q
         obtain rfl : b' = b := by simpa using e
         exact ⟨n, m⟩
       · cases h
theorem rd_of_row {n0 : Nat} {W w : World} {ao : Option Addr} {cap : Nat} {zs : List Int} (h : RowB n0 W ao cap zs) (hc : ∀ a i, ao = some a → i < zs.length → w.cell? ⟨a.block, i, none⟩ = some (.int .i64 (zs.getD i 0))) : RdI .i64 w ao zs.length cap zs := by
 refine ⟨rfl, h.1, h.2.1, h.2.2.1, fun i hi => ?_⟩
 cases ao with
 | none => have := h.2.2.1 rfl; have := h.1; omega
 | some a =>
   obtain ⟨h1, h2, -⟩ := h.2.2.2 a rfl
   obtain ⟨b, o, sp⟩ := a
   simp only at h1 h2
   subst h1; subst h2
   exact ⟨b, 0, rfl, by rw [Nat.zero_add]; exact hc _ i rfl hi⟩
def PostT (A : Nat → Addr) (zs : List Int) (s : Nat) (c l : Int) (m : Nat) (v : Value) (w' : World) : Prop :=
 ((bakerF zs c l 0).1 ≠ 0 ∧ ∃ ve, v = .tuple #[.slice none 0 0, ve] ∧ ∃ w0 : World, w0.heap.size = m ∧ ErrIs A w0 w' ve (bakerF zs c l 0)) ∨
   ((bakerF zs c l 0).1 = 0 ∧ ∃ ao cap, v = .tuple #[.slice ao 8 cap, .nilIface] ∧ w'.ownsRow m 3 1 (.slice ao 8 cap) 8 ((roundsV zs s c l 8).map (Value.int .i64)))
theorem ErrM.nilOr {A : Nat → Addr} {M : Nat → Prop} {W : World} {v : Value} {f : Nat × Int} (h : ErrM A M W v f) : v = .nilIface ∨ ∃ t u, v = .iface t u := by
 rcases h with ⟨-, rfl⟩ | ⟨-, g, -, rfl, -⟩
 · by_cases h0 : f.1 = 0
   · rw [h0]; exact .inl rfl
   · rw [ev_some A h0]; exact .inr ⟨_, _, rfl⟩
 · exact .inr ⟨_, _, rfl⟩
theorem bakerF_ten (zs : List Int) (c l r : Int) : (bakerF zs c l r).1 ≤ 10 := by
 unfold bakerF
 split
 · unfold weightsF
   repeat' split
   all_goals (try simp) <;> omega
 · decide
set_option maxHeartbeats 1000000 in
theorem task_job {n0 : Nat} {A : Nat → Addr} {ao : Option Addr} {cap : Nat} {zs : List Int} {s : Nat} {c : Int} {al : Option Addr} {capl : Nat} {ls : List Int} {b5 b6 b7 b8 : Nat} {W : World} {Fm : Farm Tryd.prog} {S : Nat → Prop}
   (hw : TaskW n0 A ao cap zs s c al capl ls b5 b6 b7 b8 W) (hs : s < 18446744073709551616) (hls : ls.length < 1000000) (hS : ∀ b, taskS n0 ao zs.length al ls.length b5 b6 b7 b8 b → S b) (hlo : Fm.Wg < W.heap.size ∧ Fm.Td < W.heap.size) (hm : Fm.many = ls.length) :
   Job Fm 139 #[.pointer (some ⟨b5, 0, none⟩), .pointer (some ⟨b6, 0, none⟩), .pointer (some ⟨b7, 0, none⟩), .pointer (some ⟨b8, 0, none⟩)] (ResT n0 A zs s c ls Fm.Wg Fm.Td) S W := by
 intro i hi C Cs Stop hk
 rw [hm] at hi
 have hI := hw.ini
 generalize hL : taskL ao zs.length al ls.length b5 b6 b7 b8 = L at *
 have m5 : (b5, 1) ∈ L := by rw [← hL]; simp [taskL]
 have m6 : (b6, 1) ∈ L := by rw [← hL]; simp [taskL]
 have m7 : (b7, 1) ∈ L := by rw [← hL]; simp [taskL]
 have m8 : (b8, 1) ∈ L := by rw [← hL]; simp [taskL]
 have mr : ∀ a, ao = some a → (a.block, zs.length) ∈ L := fun a e => by rw [← hL, e]; simp [taskL, rowL]
 have ml : ∀ a, al = some a → (a.block, ls.length) ∈ L := fun a e => by rw [← hL, e]; simp [taskL, rowL]
 have hsub : ∀ b, (footL A L).has b → taskS n0 ao zs.length al ls.length b5 b6 b7 b8 b := fun b hb => (has_sub hI hb).imp id fun ⟨n, m⟩ => ⟨n, hL ▸ m⟩
 obtain ⟨n5, t5, e5⟩ := hw.h5
 obtain ⟨n6, t6, e6⟩ := hw.h6
 obtain ⟨n7, t7, e7⟩ := hw.h7
 obtain ⟨n8, t8, e8⟩ := hw.h8
 have vr : ∀ a n, ao = some a → (footL A L).val (okFn goodS) (.slice (some a) n cap) := fun a n e => val_slice _ _ (has_new hI (mr a e) (hw.rw.2.2.2 a e).2.2.1)
 have vl : ∀ a n, al = some a → (footL A L).val (okFn goodS) (.slice (some a) n capl) := fun a n e => val_slice _ _ (has_new hI (ml a e) (hw.rl.2.2.2 a e).2.2.1)
 have one : ∀ {x u v : Value} {i : Nat}, i < 1 → (#[x] : Array Value)[i]? = some v → v = x := fun {x u v i} h1 h2 => by
   obtain rfl : i = 0 := by omega
   simpa using h2.symm
 have hrow : ∀ {a : Addr} {cp : Nat} {xs : List Int} {oo : Option Addr}, RowB n0 W oo cp xs → oo = some a → n0 ≤ a.block ∧ ∃ c t, W.heap[a.block]? = some (.cells c t (0, 0)) ∧ ∀ (i : Nat) (v : Value), i < xs.length → c[i]? = some v → (footL A L).val (okFn goodS) v := fun {a cp xs oo} h e => by
   obtain ⟨-, -, h3, c, t, h4, h5⟩ := h.2.2.2 a e
   exact ⟨h3, c, t, h4, fun i v hi hv => by rw [h5 i hi] at hv; cases hv; exact val_int _ _⟩
 have hl : ∀ b h, (b, h) ∈ L → n0 ≤ b ∧ ∃ c t, W.heap[b]? = some (.cells c t (0, 0)) ∧ ∀ (i : Nat) (v : Value), i < h → c[i]? = some v → (footL A L).val (okFn goodS) v := by
   intro b h m
   have m' := m
   rw [← hL] at m
   simp only [taskL, List.mem_cons, Prod.mk.injEq, List.mem_append] at m
   rcases m with ⟨rfl, rfl⟩ | ⟨rfl, rfl⟩ | ⟨rfl, rfl⟩ | ⟨rfl, rfl⟩ | m | m
   · refine ⟨n5, _, _, e5, fun i v h1 h2 => ?_⟩
     obtain rfl := one (u := v) h1 h2
     cases hao : ao with
     | none => exact .snil _ _
     | some a => exact vr a _ hao
   · refine ⟨n6, _, _, e6, fun i v h1 h2 => ?_⟩
     obtain rfl := one (u := v) h1 h2
     exact val_int _ _
   · refine ⟨n7, _, _, e7, fun i v h1 h2 => ?_⟩
     obtain rfl := one (u := v) h1 h2
     exact val_int _ _
   · refine ⟨n8, _, _, e8, fun i v h1 h2 => ?_⟩
     obtain rfl := one (u := v) h1 h2
     cases hal : al with
     | none => exact .snil _ _
     | some a => exact vl a _ hal
   · cases hao : ao with
     | none => rw [hao] at m; cases m
     | some a =>
       rw [hao] at m
       have : (b, h) = (a.block, zs.length) := List.mem_singleton.1 m
       cases this
       exact hrow hw.rw hao
   · cases hal : al with
     | none => rw [hal] at m; cases m
     | some a =>
       rw [hal] at m
       have : (b, h) = (a.block, ls.length) := List.mem_singleton.1 m
       cases this
       exact hrow hw.rl hal
 have hhas : ∀ {b n}, (b, n) ∈ L → n0 ≤ b → (footL A L).has b := fun m hn => has_new hI m hn
 refine gw_lone (F := footL A L) (eq := true) (Post := PostT A zs s c (ls.getD i 0) W.heap.size) goodP (fun _ => rfl) gl_has (foot_ok hI hl) (fun b hb => .inl (hS b (hsub b hb))) (fun _ q => q.elim) (fr_enter goodP (by kernel_rfl) ⟨_, _, Tryd.func139, rfl⟩ ?_) (fun τ => callsFrom_of (Calls.mono (rights1 A [1, 2, 3, 4, 5, 6, 7, 8, 9, 10] hs hi hls (b5 := b5) (b6 := b6) (b7 := b7) (b8 := b8) (c := c) (cap := cap) (capl := capl) (ao := ao) (al := al) (zs := zs) ?_ ?_ ?_ ?_ ?_ ?_ ?_ (by decide) (by decide) (by decide)) ?_)) ?_
 · intro v hv
   simp only [Array.mem_append, List.mem_toArray, List.mem_cons, List.not_mem_nil, or_false] at hv
   rcases hv with rfl | rfl | rfl | rfl | rfl
   · exact val_int _ _
   · exact val_ptr (hhas m5 n5)
   · exact val_ptr (hhas m6 n6)
   · exact val_ptr (hhas m7 n7)
   · exact val_ptr (hhas m8 n8)
 · refine rd_of_row hw.rw fun a i e hi => ?_
   obtain ⟨-, -, h3, c, t, h4, h5⟩ := hw.rw.2.2.2 a e
   exact foot_new hI (mr a e) h3 hi (by rw [at_cell h4]; exact h5 i hi)
 · refine rd_of_row hw.rl fun a i e hi => ?_
   obtain ⟨-, -, h3, c, t, h4, h5⟩ := hw.rl.2.2.2 a e
   exact foot_new hI (ml a e) h3 hi (by rw [at_cell h4]; exact h5 i hi)
 · exact foot_new hI m5 n5 (Nat.lt_succ_self _) (by rw [at_cell e5]; rfl)
 · exact foot_new hI m6 n6 (Nat.lt_succ_self _) (by rw [at_cell e6]; rfl)
 · exact foot_new hI m7 n7 (Nat.lt_succ_self _) (by rw [at_cell e7]; rfl)
 · exact foot_new hI m8 n8 (Nat.lt_succ_self _) (by rw [at_cell e8]; rfl)
 · exact ⟨(foot_sents (ok := okFn goodS) (l := L) hI).errs.cell⟩
 · rintro e w' ⟨-, h⟩
   have hsz : (loneW (okFn goodS) (footL A L) W).heap.size = W.heap.size := loneW_size
   rcases h with ⟨h1, v, rfl, h2⟩ | ⟨h1, a, cp, rfl, h2⟩
   · exact ⟨_, rfl, .inl ⟨h1, v, rfl, _, hsz, h2⟩⟩
   · refine ⟨_, rfl, .inr ⟨h1, a, cp, rfl, ?_⟩⟩
     have h2' : w'.ownsRow (loneW (okFn goodS) (footL A L) W).heap.size 3 1 (.slice a 8 cp) 8 ((roundsV zs s c (ls.getD i 0) 8).map (Value.int .i64)) := h2
     rw [hsz] at h2'
     exact h2'
 · intro V v w ρ W1 N hv hr he hp hN hrel _
   have hnew : ∀ b, (False ∨ N b) → W.heap.size ≤ b ∧ b < W1.heap.size := fun b q => hN b (q.resolve_left id)
   have hold : ∀ b, (footL A L).has b → b < W.heap.size := fun b hb => hw.lt (hsub b hb)
   have nW : ¬ (False ∨ N Fm.Wg) := fun q => by have := (hnew _ q).1; omega
   have nT : ¬ (False ∨ N Fm.Td) := fun q => by have := (hnew _ q).1; omega
   have hrel' : RelyS S (fun _ => False) W W1 := hrel
   rcases hp with ⟨hf, ve, rfl, w0, hm0, herr⟩ | ⟨hf, a, cp, rfl, hown⟩
   · cases hv with
     | tuple hs hx =>
       obtain ⟨X0, X1, rfl, x0, x1⟩ := VRs.at2 ⟨hs, hx⟩
       cases x0
       have hE := err_over hI hr he (w0 := w0) (fun b hb => by rw [hm0]; exact hold b hb) (bakerF_ten _ _ _ _) x1 herr
       exact hk none 0 0 X1 W1 _ hE.nilOr ⟨nW, nT, fun b q => ⟨Nat.le_trans hI.size (hnew b q).1, (hnew b q).2⟩, .inl ⟨hf, rfl, hE.mono fun b q => .inr q⟩⟩ hrel'
   · cases hv with
     | tuple hs hx =>
       obtain ⟨X0, X1, rfl, x0, x1⟩ := VRs.at2 ⟨hs, hx⟩
       cases x1
       have hlen := roundsV_length zs s c (ls.getD i 0) 8
       have hR := row_over hr (n1 := W.heap.size) hold x0 (xs := roundsV zs s c (ls.getD i 0) 8) (by intro q; rw [q] at hlen; cases hlen) (by rw [hlen]; exact hown)
       obtain ⟨b, cap2, h1, -⟩ := id hR
       rw [hlen] at h1
       subst h1
       exact hk _ _ _ .nilIface W1 _ (.inl rfl) ⟨nW, nT, fun b q => ⟨Nat.le_trans hI.size (hnew b q).1, (hnew b q).2⟩, .inr ⟨hf, rfl, hR.mono fun b q => .inr q⟩⟩ hrel'
end Go.Proofs.YtajnfkmkombajabDoor
namespace Go.Proofs.YtajnfkmkombajabDoor
open Go Go.Conc Go.ConcN
theorem callsFrom_of_wp {P : Program} {f : FuncId} {fn : Func} {c : Code} {a : Act} {w : World} {R : Ending → World → Prop} (hf : P.funcs[f]? = some fn) (h : c.wp P (bodyPost P fn R) a w) : CallsFrom P ((base f).at a [.code c]) w R := by
 intro cs
 obtain ⟨e, a', w', hq, harr⟩ := h (base f) [] cs
 cases e with
 | normal =>
   obtain ⟨hd, v, hr, hR⟩ := hq
   exact ⟨.returned v, w', _, hR, Steps.trans harr (.one step_end), rfl, hd, rfl, fn, hf, hr⟩
 | ret =>
   obtain ⟨hd, v, hr, hR⟩ := hq
   obtain ⟨todo, hs⟩ := harr
   exact ⟨.returned v, w', _, hR, hs, rfl, hd, rfl, fn, hf, hr⟩
 | panic chain =>
   obtain ⟨hd, hR⟩ := hq
   obtain ⟨todo, hs⟩ := harr
   exact ⟨.panicked chain, w', _, hR, hs, rfl, hd, fn, hf⟩
 | exit id => exact hq.elim
 | goto l => exact hq.elim
 | outgrown => exact ⟨.outgrown, w', base f, hq, harr.resolve_left (by simp [base]), trivial⟩
end Go.Proofs.YtajnfkmkombajabDoor
