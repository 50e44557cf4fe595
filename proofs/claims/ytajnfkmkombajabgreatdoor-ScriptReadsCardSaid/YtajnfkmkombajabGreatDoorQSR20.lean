/-
  Contracts of package right: Baker.
  A chain: the calls that only look; payments, stakes, what is freed, evidence.
  Contracts of package part: Check, down, Bend.
-/
import Derived.Test.YtajnfkmkombajabGreatDoorQSR19
import Derived.Test.YtajnfkmkombajabGreatDoorQSR16
import Derived.Deep.RegionWith
import Derived.Deep.RegionHeld3
import Derived.Deep.QuietTactic
import Derived.BigQuiet
import Derived.Test.YtajnfkmkombajabGreatDoorQSR07
import Derived.Test.YtajnfkmkombajabGreatDoorQSR05
import Derived.Test.YtajnfkmkombajabGreatDoorQSR02
import Derived.Deep.DeepCutAuto
set_option linter.unusedVariables false
set_option linter.unusedSimpArgs false
set_option linter.unusedVariables false
namespace Go.Proofs.YtajnfkmkombajabGreatDoor
open Go.RowKit

theorem lotAdv_bd (x : Int) : 0 ≤ lotAdv x ∧ lotAdv x < 18446744073709551616 := by
  unfold lotAdv; rw [IntKind.wrap_u64]; omega
theorem mix1_nat (s n : Int) : ∃ m : Nat, m < 18446744073709551616 ∧ mix1 s n = (m : Int) := by
  unfold mix1
  have hb := lotAdv_bd (bits BinOp.xor IntKind.u64 s (IntKind.u64.wrap n))
  obtain ⟨m, hm⟩ := Int.eq_ofNat_of_zero_le hb.1
  rw [hm] at hb ⊢
  exact ⟨lotN m, lotN_lt m, lotOut_nat m (by omega)⟩
theorem mixL_nat (s : Nat) (hs : s < 18446744073709551616) (l : List Int) : ∃ m : Nat, m < 18446744073709551616 ∧ mixL (s : Int) l = (m : Int) := by
  rcases List.eq_nil_or_concat l with rfl | ⟨l', x, rfl⟩
  · exact ⟨s, hs, rfl⟩
  · rw [List.concat_eq_append, mixL_snoc]; exact mix1_nat _ _

/-- the lots of a round -/
noncomputable def roundSeed (s : Int) (c l r : Int) : Nat := (mixL s [c, l, r]).toNat
/-- who bakes -/
noncomputable def bakerV (zs : List Int) (s : Int) (c l r : Int) : Int :=
  pickOf (vose zs) (belowN (roundSeed s c l r) zs.length) (belowN (belowS (roundSeed s c l r) zs.length) zs.sum.toNat : Nat)
def roundOk (c l r : Int) : Prop := (0 ≤ c ∧ c ≤ 1048576) ∧ (0 ≤ l ∧ l ≤ 4194304) ∧ (0 ≤ r ∧ r < 8)
instance (c l r : Int) : Decidable (roundOk c l r) := by unfold roundOk; infer_instance
def bakerF (zs : List Int) (c l r : Int) : Nat × Int := if roundOk c l r then weightsF zs else (2, -1)

def BakerPost (A : Nat → Addr) (zs : List Int) (s c l r : Int) (w : World) (e : Ending) (w' : World) : Prop :=
  ∃ v, e = .returned (.tuple #[.int .i64 (if (bakerF zs c l r).1 = 0 then bakerV zs s c l r else 0), v]) ∧ ErrIs A w w' v (bakerF zs c l r) ∧ Below w.heap.size w w'

theorem bakerV_weight {zs : List Int} (hf : (weightsF zs).1 = 0) (s c l r : Int) : ∃ k : Nat, bakerV zs s c l r = (k : Int) ∧ k < zs.length ∧ 0 < zs.getD k 0 := by
  obtain ⟨_, h1, h64, hz, hs1, hs2⟩ := weights_ok hf
  refine pick_weight (vose_just zs (fun x hx => (hz x hx).1)) (belowN_lt h1) (by omega) ?_
  have := belowN_lt (s := belowS (roundSeed s c l r) zs.length) (n := zs.sum.toNat) (by omega)
  omega

set_option maxRecDepth 8000 in
theorem baker_out (A : Nat → Addr) (S : List Nat) (ao : Option Addr) (len cap : Nat) (zs : List Int) (s c l r : Int) (w : World) (hE : Errs A S w) (h2 : 2 ∈ S) (hr : ¬ roundOk c l r) :
    Calls Tryz.prog 90 #[.slice ao len cap, .int .u64 s, .int .i64 c, .int .i64 l, .int .i64 r] w (BakerPost A zs s c l r w) := by
  have g2 : w.cell? ⟨0, 0, none⟩ = some (.iface 235 (.pointer (some (A 2)))) := hE.cell 2 h2
  have HF := Lib.hid (show bakerF zs c l r = (2, -1) from if_neg hr)
  have hcases : c < 0 ∨ (decide (c < 0) = false ∧ 1048576 < c) ∨ (decide (c < 0) = false ∧ decide (1048576 < c) = false ∧ l < 0) ∨ (decide (c < 0) = false ∧ decide (1048576 < c) = false ∧ decide (l < 0) = false ∧ 4194304 < l) ∨
      (decide (c < 0) = false ∧ decide (1048576 < c) = false ∧ decide (l < 0) = false ∧ decide (4194304 < l) = false ∧ r < 0) ∨ (decide (c < 0) = false ∧ decide (1048576 < c) = false ∧ decide (l < 0) = false ∧ decide (4194304 < l) = false ∧ decide (r < 0) = false ∧ 8 ≤ r) := by
    unfold roundOk at hr
    simp only [decide_eq_false_iff_not]; omega
  clear hE hr
  rcases hcases with h | ⟨d1, h⟩ | ⟨d1, d2, h⟩ | ⟨d1, d2, d3, h⟩ | ⟨d1, d2, d3, d4, h⟩ | ⟨d1, d2, d3, d4, d5, h⟩
  all_goals
    go_enter Tryz.func90, Tryz.ntmps90
    go_wp2_with fail
    go_quiet (fail)
    go_wp2_with fail
    go_ret2
    exact ⟨_, by rw [HF.out]; rfl, by rw [HF.out]; exact .inl ⟨rfl, rfl⟩, (Below.refl _ _).drewN _⟩

set_option maxRecDepth 8000 in
set_option maxHeartbeats 1000000 in
theorem baker_in (A : Nat → Addr) (S : List Nat) (ao : Option Addr) (cap : Nat) (zs : List Int) (s : Nat) (hs : s < 18446744073709551616) (c l r : Int) (w : World) (R : RdI .i64 w ao zs.length cap zs) (hE : Errs A S w) (h2 : 2 ∈ S) (h3 : 3 ∈ S) (h4 : 4 ∈ S) (hr : roundOk c l r) :
    Calls Tryz.prog 90 #[.slice ao zs.length cap, .int .u64 s, .int .i64 c, .int .i64 l, .int .i64 r] w (BakerPost A zs s c l r w) := by
  have hF : bakerF zs c l r = weightsF zs := if_pos hr
  have HF := Lib.hid hF; clear hF
  obtain ⟨⟨c0, c1⟩, ⟨l0, l1⟩, ⟨r0, r1⟩⟩ := hr
  have d1 : decide (c < 0) = false := decide_eq_false (by omega)
  have d2 : decide (1048576 < c) = false := decide_eq_false (by omega)
  have d3 : decide (l < 0) = false := decide_eq_false (by omega)
  have d4 : decide (4194304 < l) = false := decide_eq_false (by omega)
  have d5 : decide (r < 0) = false := decide_eq_false (by omega)
  have d6 : decide (8 ≤ r) = false := decide_eq_false (by omega)
  obtain ⟨m, hm, hmix⟩ := mixL_nat s hs [c, l, r]
  have hseed : roundSeed s c l r = m := by unfold roundSeed; rw [hmix]; rfl
  have hV := fun wx => draw_New A S ao cap zs wx
  have HNew := Lib.hid hV; clear hV
  have HR := Lib.hid R; have HE := Lib.hid hE; have HM := Lib.hid hmix; have HSd := Lib.hid hseed; have HMl := Lib.hid hm
  have HPick := Lib.hid (fun b cb k a wx hd => draw_Pick_in b cb zs k a wx hd)
  have HCols := Lib.hid (fun b cb wx hd => draw_Columns b cb zs wx hd)
  have HHi := Lib.hid (fun b cb wx hd => draw_Height b cb zs wx hd)
  have HVal := Lib.hid (show bakerV zs s c l r = pickOf (vose zs) (belowN m zs.length) (belowN (belowS m zs.length) zs.sum.toNat : Nat) by unfold bakerV; rw [hseed])
  clear R hE hmix hseed hm c0 c1 l0 l1 r0 r1 hs
  generalize hn : zs.length = n at *
  have Hn := Lib.hid hn; clear hn
  generalize hH : zs.sum = H at *
  have HH := Lib.hid hH; clear hH
  go_enter Tryz.func90, Tryz.ntmps90
  go_wp2_with fail
  refine (HNew.out _ HR.out HE.out h2 h3 h4).mono ?_
  rintro e w1 ⟨p, v, rfl, hv, hb1, hp⟩
  rcases hp with ⟨hf, rfl⟩ | ⟨hf, b, cb, rfl, nb, nc, D⟩
  · obtain ⟨t, x, rfl⟩ := hv.no hf
    have HV := Lib.hid hv; have HB := Lib.hid hb1; have Hf := Lib.hid hf
    clear hv hb1 hf
    go_wp2_with fail
    go_ret2
    exact ⟨_, by rw [HF.out, if_neg Hf.out]; rfl, by rw [HF.out]; exact HV.out, HB.out⟩
  · obtain ⟨hwf, hl1, hl64, hz, hs1, hs2⟩ := weights_ok hf
    rw [hwf] at hv
    have hv0 := hv.yes rfl rfl
    subst hv0
    rw [Hn.out] at hl1 hl64
    rw [HH.out] at hs1 hs2
    obtain ⟨h, rfl⟩ := Int.eq_ofNat_of_zero_le (show 0 ≤ H by omega)
    have HZ := Lib.hid (fun x hx => (hz x hx).1)
    have HW := Lib.hid hwf; have HB := Lib.hid hb1; have HD := Lib.hid D
    clear hv hf hwf hz hb1 D
    go_wp2_with fail
    have R3 := RdI.of_rowAt (k := .i64) (zs := [c, l, r]) (RowAt.new w1 3 [.int .i64 c, .int .i64 l, .int .i64 r]) (by unfold maxLen; simp)
    have b2 := HB.out.alloc HB.out.size (.cells #[.int .i64 c, .int .i64 l, .int .i64 r] 3)
    have D2 : DrawAt b cb zs (w1.alloc (.cells #[.int .i64 c, .int .i64 l, .int .i64 r] 3)) := ⟨HD.out.d.alloc _, HD.out.c.alloc _⟩
    refine (lots_Mix (s : Int) _ _ _ [c, l, r] _ R3).mono ?_
    rintro e w2 ⟨rfl, hb2⟩
    rw [HM.out]
    have b3 := btrans b2 hb2
    have D3 := D2.below hb2
    clear R3 b2 D2 hb2
    have HB3 := Lib.hid b3; have HD3 := Lib.hid D3
    clear b3 D3
    go_wp2_with fail
    refine (lots_New (m : Int) _).mono ?_
    rintro e w' ⟨rfl, rfl⟩
    have L4 : LotsAt w2.heap.size m (w2.alloc (.cells #[.int .u64 (m : Int)] 180)) := RowAt.new w2 180 [.int .u64 (m : Int)]
    have b4 := HB3.out.alloc HB3.out.size (.cells #[.int .u64 (m : Int)] 180)
    have D4 : DrawAt b cb zs (w2.alloc (.cells #[.int .u64 (m : Int)] 180)) := ⟨HD3.out.d.alloc _, HD3.out.c.alloc _⟩
    have hbl : b < w2.heap.size := HD3.out.d.lt
    have hcl : cb < w2.heap.size := HD3.out.c.lt
    have HL4 := Lib.hid L4; have HB4 := Lib.hid b4; have HD4 := Lib.hid D4
    clear L4 b4 D4
    go_wp2_with fail
    refine (HCols.out b cb _ HD4.out).mono ?_
    rintro e w' ⟨rfl, rfl⟩
    go_wp2_with fail
    refine (lots_Below_in w2.heap.size m n _ HMl.out hl1 (by omega) HL4.out).mono ?_
    rintro e w5 ⟨rfl, k5, L5⟩
    have D5 := HD4.out.keep k5 (by omega) (by omega)
    have b5 : Below w.heap.size w w5 := Keep.after HB4.out k5 (fun i hi => by have := HB3.out.size; omega)
    have HL5 := Lib.hid L5; have HB5 := Lib.hid b5; have HD5 := Lib.hid D5
    clear L5 b5 D5 k5
    have hlt5 := belowS_lt m n
    have hcol := belowN_lt (s := m) hl1
    have HS5 := Lib.hid hlt5; clear hlt5
    generalize belowS m n = s5 at *
    generalize belowN m n = col at *
    go_wp2_with fail
    refine (HHi.out b cb _ HD5.out).mono ?_
    rintro e w' ⟨rfl, rfl⟩
    go_wp2_with fail
    refine (lots_Below_in w2.heap.size s5 h _ HS5.out (by omega) (by omega) HL5.out).mono ?_
    rintro e w6 ⟨rfl, k6, L6⟩
    have D6 := HD5.out.keep k6 (by omega) (by omega)
    have b6 : Below w.heap.size w w6 := Keep.after HB5.out k6 (fun i hi => by have := HB3.out.size; omega)
    have HB6 := Lib.hid b6; have HD6 := Lib.hid D6
    clear L6 b6 D6 k6
    have hat := belowN_lt (s := s5) (n := h) (by omega)
    rw [Int.toNat_natCast] at HVal
    generalize belowN s5 h = at_ at *
    go_wp2_with fail
    refine (HPick.out b cb col (at_ : Int) _ HD6.out HZ.out hcol (by omega) (by omega)).mono ?_
    rintro e w7 ⟨rfl, nq, rfl⟩
    go_wp2_with fail
    go_ret2
    exact ⟨_, by rw [HF.out, HW.out, HVal.out]; rfl, by rw [HF.out, HW.out]; exact .inl ⟨rfl, rfl⟩, HB6.out.drewN _⟩

theorem right_Baker (A : Nat → Addr) (S : List Nat) (ao : Option Addr) (cap : Nat) (zs : List Int) (s : Nat) (hs : s < 18446744073709551616) (c l r : Int) (w : World) (R : RdI .i64 w ao zs.length cap zs) (hE : Errs A S w) (h2 : 2 ∈ S) (h3 : 3 ∈ S) (h4 : 4 ∈ S) :
    Calls Tryz.prog 90 #[.slice ao zs.length cap, .int .u64 s, .int .i64 c, .int .i64 l, .int .i64 r] w (BakerPost A zs s c l r w) := by
  by_cases hr : roundOk c l r
  · exact baker_in A S ao cap zs s hs c l r w R hE h2 h3 h4 hr
  · exact baker_out A S ao zs.length cap zs s c l r w hE h2 hr
end Go.Proofs.YtajnfkmkombajabGreatDoor
namespace Go.Proofs.YtajnfkmkombajabGreatDoor
open Go.RowKit Go.Maps

section
variable {W w : World} {F : Nat → Prop} {cb n sd : Nat} {K : ChL} {x : CS}
theorem ChGo.c0 (h : ChGo W F cb K n sd x w) : w.cell? ⟨cb, 0, none⟩ = some (.pointer (some ⟨K.pb, 0, none⟩)) := h.ch.cell 0
theorem ChGo.c1 (h : ChGo W F cb K n sd x w) : w.cell? ⟨cb, 1, none⟩ = some (.pointer (some ⟨K.sb, 0, none⟩)) := h.ch.cell 1
theorem ChGo.c2 (h : ChGo W F cb K n sd x w) : w.cell? ⟨cb, 2, none⟩ = some (.pointer (some ⟨K.kb, 0, none⟩)) := h.ch.cell 2
theorem ChGo.c3 (h : ChGo W F cb K n sd x w) : w.cell? ⟨cb, 3, none⟩ = some (.int .u64 sd) := h.ch.cell 3
theorem ChGo.c4 (h : ChGo W F cb K n sd x w) : w.cell? ⟨cb, 4, none⟩ = some (.int .i64 x.cycle) := h.ch.cell 4
theorem ChGo.c5 (h : ChGo W F cb K n sd x w) : w.cell? ⟨cb, 5, none⟩ = some (.int .i64 x.level) := h.ch.cell 5
theorem ChGo.c6 (h : ChGo W F cb K n sd x w) : w.cell? ⟨cb, 6, none⟩ = some (.int .i64 x.bonus) := h.ch.cell 6
theorem ChGo.c7 (h : ChGo W F cb K n sd x w) : w.cell? ⟨cb, 7, none⟩ = some K.pv := h.ch.cell 7

theorem chain_Cycle (h : ChGo W F cb K n sd x w) : Calls Tryz.prog 68 #[.pointer (some ⟨cb, 0, none⟩)] w fun e w' => e = .returned (.int .i64 x.cycle) ∧ w = w' := by
  have c := h.c4
  clear h
  go_enter Tryz.func68, Tryz.ntmps68
  go_wp2
  go_ret
  exact ⟨rfl, rfl⟩
theorem chain_Level (h : ChGo W F cb K n sd x w) : Calls Tryz.prog 69 #[.pointer (some ⟨cb, 0, none⟩)] w fun e w' => e = .returned (.int .i64 x.level) ∧ w = w' := by
  have c := h.c5
  clear h
  go_enter Tryz.func69, Tryz.ntmps69
  go_wp2
  go_ret
  exact ⟨rfl, rfl⟩
theorem chain_Stakes (h : ChGo W F cb K n sd x w) : Calls Tryz.prog 58 #[.pointer (some ⟨cb, 0, none⟩)] w fun e w' => e = .returned (.pointer (some ⟨K.sb, 0, none⟩)) ∧ w = w' := by
  have c := h.c1
  clear h
  go_enter Tryz.func58, Tryz.ntmps58
  go_wp2
  go_ret
  exact ⟨rfl, rfl⟩
end

/-- who bakes a round, and an error's number -/
noncomputable def CS.turnV (c : CS) (sd : Nat) (r : Int) : Int := if roundOk c.cycle c.level r then bakerV (c.pics.getD 0 []) sd c.cycle c.level r else 0
def CS.turnC (c : CS) (r : Int) : Nat := if roundOk c.cycle c.level r then 0 else 2
theorem pic_fine {l : List Int} (h : (∀ x ∈ l, 0 ≤ x ∧ x ≤ 1073741824) ∧ l.length = 3 ∧ 1 ≤ l.sum) : weightsF l = (0, -1) := by
  obtain ⟨h1, h2, h3⟩ := h
  have hb : ¬ 0 ≤ firstBad l := by
    unfold firstBad
    rw [if_neg (fun hlt => ?_)]
    · decide
    · have hx : badW (l[l.findIdx badW]'hlt) = true := List.findIdx_getElem
      have hm := h1 _ (List.getElem_mem hlt)
      generalize l[l.findIdx badW]'hlt = y at hx hm
      unfold badW at hx
      simp at hx
      omega
  unfold weightsF
  rw [if_neg (by omega), if_neg hb, if_neg (by omega)]
theorem turn_fault {c : CS} (h : c.Inv) (r : Int) : bakerF (c.pics.getD 0 []) c.cycle c.level r = (c.turnC r, -1) := by
  have hl : c.pics.getD 0 [] ∈ c.pics := getD_mem _ _ _ (by rw [h.three]; decide)
  obtain ⟨h1, h2, h3⟩ := h.pic _ hl
  unfold bakerF CS.turnC
  by_cases hr : roundOk c.cycle c.level r
  · rw [if_pos hr, if_pos hr]; exact pic_fine ⟨h2, h1, h3⟩
  · rw [if_neg hr, if_neg hr]

theorem chain_Turn (A : Nat → Addr) (S : List Nat) (W : World) (F : Nat → Prop) (cb : Nat) (K : ChL) (n sd : Nat) (x : CS) (r : Int) (w : World) (h : ChGo W F cb K n sd x w) (hx : x.Inv) (hs : sd < 18446744073709551616)
    (hE : Errs A S W) (hFE : ∀ c ∈ S, ¬ F (gE c)) (h2 : 2 ∈ S) (h3 : 3 ∈ S) (h4 : 4 ∈ S) :
    Calls Tryz.prog 50 #[.pointer (some ⟨cb, 0, none⟩), .int .i64 r] w fun e w' => e = .returned (.tuple #[.int .i64 (x.turnV sd r), ev A (x.turnC r)]) ∧ Below w.heap.size w w' := by
  have c3 := h.c3; have c4 := h.c4; have c5 := h.c5; have c7 := h.c7
  obtain ⟨vs, o1, o2, o3⟩ := h.ch.pics.own
  have hl3 := hx.three
  obtain ⟨g, off, cap, hv, hg0, hgl, hcap, hcm, hcell⟩ := o1.cells (by rw [o2, hl3]; decide)
  have hv0 : vs[0]? = some (vs[0]'(by rw [o2, hl3]; decide)) := List.getElem?_eq_getElem _
  have hz0 : x.pics[0]? = some (x.pics.getD 0 []) := by
    rw [List.getD_eq_getElem?_getD, List.getElem?_eq_getElem (by rw [hl3]; decide)]; rfl
  obtain ⟨ao, cp, ev0, R, -⟩ := o3 0 _ _ hv0 hz0
  have hc0 := hcell 0 (by rw [o2, hl3]; decide)
  rw [hv0, ev0, Nat.add_zero] at hc0
  rw [hv, o2, hl3] at c7
  have HB := Lib.hid (fun wx (hb : Below w.heap.size w wx) => by
    have := right_Baker A S ao cp (x.pics.getD 0 []) sd hs x.cycle x.level r wx (R.below hb) ((h.below hb).errs hE hFE) h2 h3 h4
    unfold BakerPost at this
    rw [turn_fault hx r] at this
    exact this)
  have HT := Lib.hid (show (if x.turnC r = 0 then bakerV (x.pics.getD 0 []) sd x.cycle x.level r else 0) = x.turnV sd r by
    unfold CS.turnV CS.turnC
    by_cases hr : roundOk x.cycle x.level r
    · rw [if_pos hr, if_pos hr]; rfl
    · rw [if_neg hr, if_neg hr]; rfl)
  have hfac : ∀ wx, Below w.heap.size w wx → wx.cell? ⟨cb, 3, none⟩ = some (.int .u64 sd) ∧ wx.cell? ⟨cb, 4, none⟩ = some (.int .i64 x.cycle) ∧ wx.cell? ⟨cb, 5, none⟩ = some (.int .i64 x.level) ∧ wx.cell? ⟨cb, 7, none⟩ = some (.slice (some ⟨g, off, none⟩) 3 cap) ∧ wx.cell? ⟨g, off, none⟩ = some (.slice ao (x.pics.getD 0 []).length cp) := fun wx hb => by
    have hcb := h.ch.row.lt
    exact ⟨by rw [hb.cell (p := ⟨cb, 3, none⟩) hcb]; exact c3, by rw [hb.cell (p := ⟨cb, 4, none⟩) hcb]; exact c4, by rw [hb.cell (p := ⟨cb, 5, none⟩) hcb]; exact c5, by rw [hb.cell (p := ⟨cb, 7, none⟩) hcb]; exact c7, by rw [hb.cell (p := ⟨g, off, none⟩) hgl]; exact hc0⟩
  have HF := Lib.hid hfac
  have hcap3 : 3 ≤ cap := by rw [o2, hl3] at hcap; exact hcap
  clear h hx o1 o3 hcell hv hv0 hz0 ev0 R hE hFE hfac hcap o2 hl3
  generalize (x.pics.getD 0 []).length = zl at *
  generalize x.turnV sd r = tv at *
  go_enter Tryz.func50, Tryz.ntmps50
  go_wp2_with fail
  go_region_held3 (fun wx => wx.cell? ⟨cb, 3, none⟩ = some (.int .u64 sd) ∧ wx.cell? ⟨cb, 4, none⟩ = some (.int .i64 x.cycle) ∧ wx.cell? ⟨cb, 5, none⟩ = some (.int .i64 x.level) ∧ wx.cell? ⟨cb, 7, none⟩ = some (.slice (some ⟨g, off, none⟩) 3 cap) ∧ wx.cell? ⟨g, off, none⟩ = some (.slice ao zl cp)) (first | exact HF.out _ H1.out | exact HF.out _ ((Below.refl _ _).drewN _) | exact HF.out _ (Below.refl _ _))
    ((go_at_call 90; refine (HB.out _ ((Below.refl _ _).drewN 1)).mono ?_; rintro y w1 ⟨v, rfl, he, hb⟩; have hv : v = ev A (x.turnC r) := (he.elim (fun h => h.2) (fun h => absurd h.1 (by simp))); subst hv; rw [HT.out]; have H1 := Lib.hid (btrans ((Below.refl _ _).drewN 1) hb)))
  go_wp2
  go_ret2
  exact ⟨rfl, H1.out⟩

section
variable (A : Nat → Addr) (S : List Nat) (W : World) (F : Nat → Prop) (cb : Nat) (K : ChL) (n sd : Nat) (x : CS) (w : World)
theorem chain_Pay (a b N : Int) (h : ChGo W F cb K n sd x w) (hE : Errs A S W) (hFE : ∀ c ∈ S, ¬ F (gE c)) (h2 : 2 ∈ S) (h6 : 6 ∈ S) :
    Calls Tryz.prog 38 #[.pointer (some ⟨cb, 0, none⟩), .int .i64 a, .int .i64 b, .int .i64 N] w fun e w' => e = .returned (ev A (x.p.moveOp a b N).1) ∧ ChGo W F cb K n sd { x with p := (x.p.moveOp a b N).2 } w' := by
  have c0 := h.c0
  have H0 := Lib.hid h
  have hfar : Far S K.pb := fun c hc e => h.fs hE hFE c hc (.inr (.inl e))
  have HM := Lib.hid (purse_Move A S K.pb x.p a b N w (h.errs hE hFE) h2 h6 hfar h.ch.purse)
  clear h hE hFE hfar
  go_enter Tryz.func38, Tryz.ntmps38
  go_wp2_with fail
  refine HM.out.mono ?_
  rintro e w1 ⟨rfl, h⟩
  have H1 := Lib.hid (H0.out.purse h); clear h
  go_wp2_with fail
  go_ret
  exact ⟨rfl, H1.out⟩

theorem chain_Unstake (o b N : Int) (h : ChGo W F cb K n sd x w) (hE : Errs A S W) (hFE : ∀ c ∈ S, ¬ F (gE c)) (h2 : 2 ∈ S) (h4 : 4 ∈ S) (h6 : 6 ∈ S) (h7 : 7 ∈ S) (h8 : 8 ∈ S) (hn : n + 1 < maxLen) (hcy : (Lit.int .i64 x.cycle).wf = true) :
    Calls Tryz.prog 41 #[.pointer (some ⟨cb, 0, none⟩), .int .i64 o, .int .i64 b, .int .i64 N] w fun e w' => e = .returned (ev A (x.s.leaveOp o b N x.cycle).1) ∧ ∃ K', ChGo W F cb K' (n + 2) sd { x with s := (x.s.leaveOp o b N x.cycle).2 } w' := by
  have c1 := h.c1; have c4 := h.c4
  have H0 := Lib.hid h
  have HM := Lib.hid (fun w' (k : Below w.heap.size w w') => stake_Leave A S K.sb K.Fs n x.s o b N x.cycle w' (h.ch.below k).st ((h.below k).errs hE hFE) h2 h4 h6 h7 h8 hn hcy)
  have HF := Lib.hid (fun wx (k : Below w.heap.size w wx) => And.intro (h.below k).c1 (h.below k).c4)
  clear h hE hFE hcy
  go_enter Tryz.func41, Tryz.ntmps41
  go_wp2_with fail
  go_region_held3 (fun wx => wx.cell? ⟨cb, 1, none⟩ = some (.pointer (some ⟨K.sb, 0, none⟩)) ∧ wx.cell? ⟨cb, 4, none⟩ = some (.int .i64 x.cycle)) (first | exact ⟨H1.out.c1, H1.out.c4⟩ | exact HF.out _ ((Below.refl _ _).drewN _) | exact HF.out _ (Below.refl _ _))
    ((go_at_call 86; refine (HM.out _ ((Below.refl _ _).drewN 1)).mono ?_; rintro e w1 ⟨rfl, h⟩; have H1 := Lib.hid ((H0.out.drewN 1).stakes (by omega) h); clear h))
  go_wp2_with fail
  go_ret
  exact ⟨rfl, _, H1.out⟩

theorem chain_Accuse (o : Int) (e : EV) (h : ChGo W F cb K n sd x w) (hE : Errs A S W) (hFE : ∀ c ∈ S, ¬ F (gE c)) (h2 : 2 ∈ S) (h5 : 5 ∈ S) (h10 : 10 ∈ S) (hw : e.wf) (hn : n ≤ 1000000) (hk : x.k.L.length ≤ 1000000) :
    Calls Tryz.prog 43 #[.pointer (some ⟨cb, 0, none⟩), .int .i64 o, evV e] w fun y w' => y = .returned (ev A (x.k.accuse o e x.cycle).1) ∧ ∃ K', ChGo W F cb K' (n + 1) sd { x with k := (x.k.accuse o e x.cycle).2 } w' := by
  have c2 := h.c2; have c4 := h.c4
  have H0 := Lib.hid h
  have HM := Lib.hid (fun w' (k : Below w.heap.size w w') => court_Accuse A S K.kb K.Fk n x.k o e x.cycle w' (h.ch.below k).ct ((h.below k).errs hE hFE) h2 h5 h10 hw hn hk)
  have hb1 : Below w.heap.size w (w.alloc (.cells #[.int .i64 e.b, .int .i64 e.c, .int .i64 e.n] 100)) := (Below.refl _ _).alloc (Nat.le_refl _) _
  have e0 : (w.alloc (.cells #[.int .i64 e.b, .int .i64 e.c, .int .i64 e.n] 100)).cell? ⟨w.heap.size, 0, none⟩ = some (.int .i64 e.b) := by simp [go_sem]
  have e1 : (w.alloc (.cells #[.int .i64 e.b, .int .i64 e.c, .int .i64 e.n] 100)).cell? ⟨w.heap.size, 1, none⟩ = some (.int .i64 e.c) := by simp [go_sem]
  have e2 : (w.alloc (.cells #[.int .i64 e.b, .int .i64 e.c, .int .i64 e.n] 100)).cell? ⟨w.heap.size, 2, none⟩ = some (.int .i64 e.n) := by simp [go_sem]
  unfold evV at HM ⊢
  generalize hw1 : w.alloc (.cells #[.int .i64 e.b, .int .i64 e.c, .int .i64 e.n] 100) = wb at hb1 e0 e1 e2
  have HBB := Lib.hid hb1
  have hbs : w.heap.size < wb.heap.size := by rw [← hw1]; simp
  have HKC := Lib.hid (fun (i : Nat) (wy : World) (kk : Keep K.Fk (wb.drewN 1) wy) => kk.cell (p := ⟨w.heap.size, i, none⟩) (show w.heap.size < (wb.drewN 1).heap.size from hbs) (fun hf => by
    obtain ⟨_, _, _, _, _, _, hl⟩ := h.ch.ct
    exact absurd (hl _ hf) (Nat.lt_irrefl _)))
  have c2' := (h.below hb1).c2; have c4' := (h.below hb1).c4
  clear h hE hFE hb1 c2 c4
  go_enter Tryz.func43, Tryz.ntmps43
  go_wp2_with fail
  go_region_held3 (fun wx => wx.cell? ⟨cb, 2, none⟩ = some (.pointer (some ⟨K.kb, 0, none⟩)) ∧ wx.cell? ⟨cb, 4, none⟩ = some (.int .i64 x.cycle) ∧ wx.cell? ⟨w.heap.size, 0, none⟩ = some (.int .i64 e.b) ∧ wx.cell? ⟨w.heap.size, 1, none⟩ = some (.int .i64 e.c) ∧ wx.cell? ⟨w.heap.size, 2, none⟩ = some (.int .i64 e.n)) (first | exact ⟨H1.out.c2, H1.out.c4, by rw [q0]; exact e0, by rw [q1]; exact e1, by rw [q2]; exact e2⟩ | exact ⟨c2', c4', e0, e1, e2⟩ | (simp only [World.cell?_drewN]; exact ⟨c2', c4', e0, e1, e2⟩))
    ((go_at_call 87; refine (HM.out _ (HBB.out.drewN 1)).mono ?_; rintro e w1 ⟨rfl, h⟩; have q0 := HKC.out 0 _ h.1; have q1 := HKC.out 1 _ h.1; have q2 := HKC.out 2 _ h.1; have H1 := Lib.hid ((H0.out.below (HBB.out.drewN 1)).court (by omega) h); clear h))
  go_wp2_with fail
  go_ret
  exact ⟨rfl, _, H1.out⟩

set_option maxHeartbeats 800000 in
theorem chain_Stake (o b N : Int) (h : ChGo W F cb K n sd x w) (hE : Errs A S W) (hFE : ∀ c ∈ S, ¬ F (gE c)) (h2 : 2 ∈ S) (h4 : 4 ∈ S) (h6 : 6 ∈ S) (h7 : 7 ∈ S) (h8 : 8 ∈ S) (hn : n < maxLen) :
    Calls Tryz.prog 19 #[.pointer (some ⟨cb, 0, none⟩), .int .i64 o, .int .i64 b, .int .i64 N] w fun e w' => e = .returned (ev A (x.stakeOp o b N).1) ∧ ∃ K', ChGo W F cb K' (n + 1) sd (x.stakeOp o b N).2 w' := by
  have c0 := h.c0
  have H0 := Lib.hid h
  have HO := Lib.hid (purse_Out A S K.pb x.p o N w (h.errs hE hFE) h2 h6 h.ch.purse)
  have HEE := Lib.hid (And.intro hE hFE)
  clear h hE hFE
  by_cases hc : (x.p.outOp o N).1 = 0
  · have ec : ev A (x.p.outOp o N).1 = .nilIface := by rw [hc]; rfl
    by_cases hj : (x.s.joinOp o b N).1 = 0
    · have ej : ev A (x.s.joinOp o b N).1 = .nilIface := by rw [hj]; rfl
      have E := Lib.hid (show x.stakeOp o b N = (0, { x with p := (x.p.outOp o N).2, s := (x.s.joinOp o b N).2 }) by unfold CS.stakeOp; rw [if_neg (by simp [hc]), if_neg (by simp [hj])])
      clear hc hj
      go_enter Tryz.func19, Tryz.ntmps19
      go_wp2_with fail
      refine HO.out.mono ?_
      rintro e w1 ⟨rfl, h⟩
      rw [ec]
      have H1 := Lib.hid (H0.out.purse h); clear h
      have d1 := H1.out.c1
      go_wp2_with fail
      refine (stake_Join A S K.sb K.Fs n x.s o b N _ H1.out.ch.st (H1.out.errs HEE.out.1 HEE.out.2) h2 h4 h7 h8 hn).mono ?_
      rintro e w2 ⟨rfl, h⟩
      rw [ej]
      have H2 := Lib.hid (H1.out.stakes (Nat.le_succ n) h); clear h
      go_wp2_with fail
      go_ret
      exact ⟨by rw [E.out]; rfl, by rw [E.out]; exact ⟨_, H2.out⟩⟩
    · have ej : ev A (x.s.joinOp o b N).1 = .iface 235 (.pointer (some (A (x.s.joinOp o b N).1))) := ev_some A hj
      have E := Lib.hid (show x.stakeOp o b N = ((x.s.joinOp o b N).1, { x with p := ((x.p.outOp o N).2.inOp o N).2, s := (x.s.joinOp o b N).2 }) by unfold CS.stakeOp; rw [if_neg (by simp [hc]), if_pos (by simp [hj])])
      clear hc hj
      go_enter Tryz.func19, Tryz.ntmps19
      go_wp2_with fail
      refine HO.out.mono ?_
      rintro e w1 ⟨rfl, h⟩
      rw [ec]
      have H1 := Lib.hid (H0.out.purse h); clear h
      have d1 := H1.out.c1
      go_wp2_with fail
      refine (stake_Join A S K.sb K.Fs n x.s o b N _ H1.out.ch.st (H1.out.errs HEE.out.1 HEE.out.2) h2 h4 h7 h8 hn).mono ?_
      rintro e w2 ⟨rfl, h⟩
      rw [ej]
      have H2 := Lib.hid (H1.out.stakes (Nat.le_succ n) h); clear h
      have e0 := H2.out.c0
      go_wp2_with fail
      refine (purse_In A S K.pb (x.p.outOp o N).2 o N _ (H2.out.errs HEE.out.1 HEE.out.2) h2 h6 H2.out.ch.purse).mono ?_
      rintro e w3 ⟨rfl, h⟩
      have H3 := Lib.hid (H2.out.purse h); clear h
      go_wp2_with fail
      go_ret
      exact ⟨by rw [E.out]; exact congrArg _ ej.symm, by rw [E.out]; exact ⟨_, H3.out⟩⟩
  · have ec : ev A (x.p.outOp o N).1 = .iface 235 (.pointer (some (A (x.p.outOp o N).1))) := ev_some A hc
    have hsame := (PS.out_sum (p := x.p) o N).2 hc
    have E := Lib.hid (show x.stakeOp o b N = ((x.p.outOp o N).1, { x with p := (x.p.outOp o N).2 }) by unfold CS.stakeOp; rw [if_pos hc, hsame])
    clear hc hsame
    go_enter Tryz.func19, Tryz.ntmps19
    go_wp2_with fail
    refine HO.out.mono ?_
    rintro e w1 ⟨rfl, h⟩
    rw [ec]
    have H1 := Lib.hid (H0.out.purse h); clear h
    go_wp2_with fail
    go_ret
    exact ⟨by rw [E.out]; exact congrArg _ ec.symm, by rw [E.out]; exact ⟨_, H1.out.mono (Nat.le_succ n)⟩⟩

set_option maxHeartbeats 800000 in
theorem chain_Free (o : Int) (h : ChGo W F cb K n sd x w) (hx : x.Inv) (hE : Errs A S W) (hFE : ∀ c ∈ S, ¬ F (gE c)) (h2 : 2 ∈ S) (h4 : 4 ∈ S) (h6 : 6 ∈ S) (hW : x.s.W.length ≤ 8000) (hn : n + x.s.W.length < maxLen) :
    Calls Tryz.prog 48 #[.pointer (some ⟨cb, 0, none⟩), .int .i64 o] w fun e w' => e = .returned (.tuple #[.int .i64 (x.freeOp o).1, ev A (x.freeOp o).2.1]) ∧ ∃ K', ChGo W F cb K' (n + x.s.W.length) sd (x.freeOp o).2.2 w' := by
  have c1 := h.c1; have c4 := h.c4
  have H0 := Lib.hid h
  have hfs : ∀ c ∈ S, ¬ K.Fs (gE c) := fun c hc hf => h.fs hE hFE c hc (.inr (.inr (.inl hf)))
  have HF := Lib.hid (fun w' (k : Below w.heap.size w w') => stake_Free A S K.sb n K.Fs x.s o x.cycle w' (h.ch.below k).st ((h.below k).errs hE hFE) h2 h4 hfs hW hn)
  have HG := Lib.hid (fun wx (k : Below w.heap.size w wx) => And.intro (h.below k).c1 (h.below k).c4)
  have HEE := Lib.hid (And.intro hE hFE)
  clear h hE hFE hfs
  by_cases hc : (x.s.freeOp o x.cycle).2.1 = 0
  · have ec : ev A (x.s.freeOp o x.cycle).2.1 = .nilIface := by rw [hc]; rfl
    have E := Lib.hid (show x.freeOp o = ((x.s.freeOp o x.cycle).1, (x.p.inOp o (x.s.freeOp o x.cycle).1).1, { x with s := (x.s.freeOp o x.cycle).2.2, p := (x.p.inOp o (x.s.freeOp o x.cycle).1).2 }) by unfold CS.freeOp; rw [if_neg (by simp [hc])])
    clear hc
    go_enter Tryz.func48, Tryz.ntmps48
    go_wp2_with fail
    go_region_held3 (fun wx => wx.cell? ⟨cb, 1, none⟩ = some (.pointer (some ⟨K.sb, 0, none⟩)) ∧ wx.cell? ⟨cb, 4, none⟩ = some (.int .i64 x.cycle)) (first | exact ⟨H1.out.c1, H1.out.c4⟩ | exact HG.out _ ((Below.refl _ _).drewN _) | exact HG.out _ (Below.refl _ _))
      ((go_at_call 89; refine (HF.out _ ((Below.refl _ _).drewN 1)).mono ?_; rintro e w1 ⟨rfl, h⟩; rw [ec]; have H1 := Lib.hid ((H0.out.drewN 1).stakes (Nat.le_add_right n _) h); clear h))
    have d0 := H1.out.c0
    go_wp2_with fail
    refine (purse_In A S K.pb x.p o (x.s.freeOp o x.cycle).1 _ (H1.out.errs HEE.out.1 HEE.out.2) h2 h6 H1.out.ch.purse).mono ?_
    rintro e w2 ⟨rfl, h⟩
    have H2 := Lib.hid (H1.out.purse h); clear h
    go_wp2_with fail
    go_ret2
    exact ⟨by rw [E.out]; rfl, by rw [E.out]; exact ⟨_, H2.out⟩⟩
  · have ec : ev A (x.s.freeOp o x.cycle).2.1 = .iface 235 (.pointer (some (A (x.s.freeOp o x.cycle).2.1))) := ev_some A hc
    have E := Lib.hid (show x.freeOp o = (0, (x.s.freeOp o x.cycle).2.1, { x with s := (x.s.freeOp o x.cycle).2.2 }) by unfold CS.freeOp; rw [if_pos hc])
    clear hc
    go_enter Tryz.func48, Tryz.ntmps48
    go_wp2_with fail
    go_region_held3 (fun wx => wx.cell? ⟨cb, 1, none⟩ = some (.pointer (some ⟨K.sb, 0, none⟩)) ∧ wx.cell? ⟨cb, 4, none⟩ = some (.int .i64 x.cycle)) (first | exact ⟨H1.out.c1, H1.out.c4⟩ | exact HG.out _ ((Below.refl _ _).drewN _) | exact HG.out _ (Below.refl _ _))
      ((go_at_call 89; refine (HF.out _ ((Below.refl _ _).drewN 1)).mono ?_; rintro e w1 ⟨rfl, h⟩; rw [ec]; have H1 := Lib.hid ((H0.out.drewN 1).stakes (Nat.le_add_right n _) h); clear h))
    go_wp2_with fail
    go_ret2
    exact ⟨by rw [E.out, ec]; rfl, by rw [E.out]; exact ⟨_, H1.out⟩⟩
end
end Go.Proofs.YtajnfkmkombajabGreatDoor
namespace Go.Proofs.YtajnfkmkombajabGreatDoor
open Go.RowKit

def CheckPost (A : Nat → Addr) (f : Nat × Int) (w : World) (e : Ending) (w' : World) : Prop := ∃ v, e = .returned v ∧ ErrIs A w w' v f ∧ Below w.heap.size w w'

theorem check_close {A : Nat → Addr} {f : Nat × Int} {c k g : Nat} {w W : World} (hf : f = (c, (k : Int))) (hg : w.heap.size ≤ g) (hb : Below w.heap.size w W) (c1 : W.cell? ⟨g, 0, none⟩ = some (.int .i64 k)) (c2 : W.cell? ⟨g, 1, none⟩ = some (ev A c)) :
    CheckPost A f w (.returned (.iface 69 (.pointer (some ⟨g, 0, none⟩)))) W := by
  subst hf
  exact ⟨_, rfl, .inr ⟨by simp, g, hg, rfl, c1, c2⟩, hb⟩

set_option maxHeartbeats 1000000 in
theorem part_Check (A : Nat → Addr) (S : List Nat) (ao : Option Addr) (len cap : Nat) (l : List (Int × Int)) (w : World) (R : RdP w ao len cap l) (hE : Errs A S w) (h2 : 2 ∈ S) (h3 : 3 ∈ S) :
    Calls Tryz.prog 178 #[.slice ao len cap] w (CheckPost A (checkF l) w) := by
  have HE := Lib.hid hE; clear hE
  by_cases hlen : len < 2 ∨ 8 < len
  · have HF := Lib.hid (checkF_out (l := l) (by rw [R.size]; exact hlen))
    have g3 : w.cell? ⟨2, 0, none⟩ = some (.iface 235 (.pointer (some (A 3)))) := HE.out.cell 3 h3
    clear R
    by_cases h1 : len < 2
    · have e1 : decide ((len : Int) < 2) = true := by simp; omega
      clear hlen
      go_enter Tryz.func178, Tryz.ntmps178
      go_wp2
      go_ret
      exact ⟨_, rfl, .inl ⟨by rw [HF.out], by rw [HF.out]; rfl⟩, Below.refl _ _⟩
    · have e1 : decide ((len : Int) < 2) = false := by simp; omega
      have e2 : decide ((8 : Int) < (len : Int)) = true := by simp; omega
      clear hlen
      go_enter Tryz.func178, Tryz.ntmps178
      go_wp2
      go_ret
      exact ⟨_, rfl, .inl ⟨by rw [HF.out], by rw [HF.out]; rfl⟩, Below.refl _ _⟩
  · rcases R.split with ⟨h0, _⟩ | ⟨h0, b, off, rfl, hb, hcell⟩
    · omega
    have e1 : decide ((len : Int) < 2) = false := by simp; omega
    have e2 : decide ((8 : Int) < (len : Int)) = false := by simp; omega
    have hl8 : (len : Int) ≤ 8 := by omega
    have Hck := Lib.hid (checkF_in (l := l) (by rw [R.size]; exact hlen))
    have Hc := Lib.hid hcell; clear hcell
    have HR := Lib.hid R; clear R
    clear hlen
    go_enter Tryz.func178, Tryz.ntmps178
    go_wp2
    go_loopw [16] (fun i wr => ∃ k : Nat, k ≤ len ∧ i = .int .i64 k ∧ Below w.heap.size w wr ∧ checkF l = chk k (prevX l k) (l.drop k)) (fun i _ => len - (intOf i).toNat)
    case atStart => exact ⟨0, Nat.zero_le _, rfl, Below.refl _ _, Hck.out⟩
    case round =>
      obtain ⟨k, hk, rfl, hbel, hck⟩ := hrel
      have HCk := Lib.hid hck; clear hck
      by_cases hlt : k < len
      · obtain ⟨c1, c2⟩ := Hc.out k hlt
        rw [← hbel.cell (p := ⟨b, off + k * 2, none⟩) hb] at c1
        rw [← hbel.cell (p := ⟨b, off + k * 2 + 1, none⟩) hb] at c2
        have hbs : b < wr.heap.size := Nat.lt_of_lt_of_le hb hbel.size
        have hEr := HE.out.below hbel
        have g2 : wr.cell? ⟨0, 0, none⟩ = some (.iface 235 (.pointer (some (A 2)))) := hEr.cell 2 h2
        have g3 : wr.cell? ⟨2, 0, none⟩ = some (.iface 235 (.pointer (some (A 3)))) := hEr.cell 3 h3
        have s2 := World.block_lt_of_cell? wr _ g2
        have s3 := World.block_lt_of_cell? wr _ g3
        simp only at s2 s3
        have HEr := Lib.hid hEr; clear hEr
        have hllen : k < l.length := by rw [HR.out.size]; exact hlt
        have Hbad := Lib.hid (chk_bad hllen)
        have Hshape := Lib.hid (chk_shape hllen)
        have Hnext := Lib.hid (chk_next hllen)
        clear hllen
        obtain ⟨p, hp⟩ : ∃ p, p = l.getD k (0, 0) := ⟨_, rfl⟩
        rw [← hp] at c1 c2 Hbad Hshape Hnext
        have Hp := Lib.hid hp; clear hp
        obtain ⟨x, y⟩ := p
        simp only at c1 c2
        rcases ptBad_cases (x := x) (y := y) with hx | hx | hx | hx | hx
        · have HPB : Hid (ptBad (x, y)) := .inl (by omega)
          go_wp2
          go_ret
          exact check_close (by rw [HCk.out, Hbad.out HPB.out]) (g := wr.heap.size + 1) (by have := hbel.size; omega) ((hbel.alloc hbel.size _).alloc (by have := hbel.size; simp; omega) _) (by simp [go_sem]) (by simp [go_sem, ev])
        · have HPB : Hid (ptBad (x, y)) := .inr (.inl (by omega))
          go_wp2
          go_ret
          exact check_close (by rw [HCk.out, Hbad.out HPB.out]) (g := wr.heap.size + 1) (by have := hbel.size; omega) ((hbel.alloc hbel.size _).alloc (by have := hbel.size; simp; omega) _) (by simp [go_sem]) (by simp [go_sem, ev])
        · have HPB : Hid (ptBad (x, y)) := .inr (.inr (.inl (by omega)))
          go_wp2
          go_ret
          exact check_close (by rw [HCk.out, Hbad.out HPB.out]) (g := wr.heap.size + 1) (by have := hbel.size; omega) ((hbel.alloc hbel.size _).alloc (by have := hbel.size; simp; omega) _) (by simp [go_sem]) (by simp [go_sem, ev])
        · have HPB : Hid (ptBad (x, y)) := .inr (.inr (.inr (by omega)))
          go_wp2
          go_ret
          exact check_close (by rw [HCk.out, Hbad.out HPB.out]) (g := wr.heap.size + 1) (by have := hbel.size; omega) ((hbel.alloc hbel.size _).alloc (by have := hbel.size; simp; omega) _) (by simp [go_sem]) (by simp [go_sem, ev])
        · have HPB : Hid (¬ ptBad (x, y)) := fun h => by rcases h with h | h | h | h <;> simp only at h <;> omega
          by_cases hk0 : k = 0
          · have HN := Lib.hid (Hnext.out HPB.out (.inl hk0))
            subst hk0
            simp only [Nat.zero_mul, Nat.add_zero] at c1 c2
            go_wp2_with fail
            go_quiet (fail)
            go_wp2
            go_roundw
            case rel => exact ⟨1, by omega, rfl, ((hbel.alloc hbel.size _)).drewN _, by rw [HCk.out, HN.out]⟩
            case measure => simp [intOf]; omega
          · obtain ⟨d1, _⟩ := Hc.out (k - 1) (by omega)
            rw [← hbel.cell (p := ⟨b, off + (k - 1) * 2, none⟩) hb] at d1
            have hk1 : (0 : Int) < (k : Int) := by omega
            have hk1n : 0 < k := by omega
            have hd0 : decide (0 < k) = true := by simp; omega
            have i1 : (0 : Int) ≤ (k : Int) - 1 := by omega
            have i2 : (k : Int) - 1 < (len : Int) := by omega
            obtain ⟨z, hz⟩ : ∃ z, z = (l.getD (k - 1) (0, 0)).1 := ⟨_, rfl⟩
            rw [← hz] at d1
            by_cases hxz : x ≤ z
            · have HS := Lib.hid (Hshape.out HPB.out (by omega) (by rw [← hz]; exact hxz))
              clear hz
              go_wp2_with fail
              go_quiet (fail)
              go_wp2
              go_ret
              exact check_close (by rw [HCk.out, HS.out]) (g := wr.heap.size + 1) (by have := hbel.size; omega) (((hbel.alloc hbel.size _).alloc (by have := hbel.size; simp; omega) _).drewN _) (by simp [go_sem]) (by simp [go_sem, ev])
            · have HN := Lib.hid (Hnext.out HPB.out (.inr (by rw [← hz]; simp only; omega)))
              clear hz
              go_wp2_with fail
              go_quiet (fail)
              go_wp2
              go_roundw
              case rel => exact ⟨k + 1, by omega, by go_num, ((hbel.alloc hbel.size _)).drewN _, by rw [HCk.out, HN.out]⟩
              case measure => simp [intOf]; omega
      · go_wp2
        go_ret
        exact ⟨_, rfl, .inl ⟨by rw [HCk.out, chk_done (by rw [HR.out.size]; omega)], by rw [HCk.out, chk_done (by rw [HR.out.size]; omega)]; rfl⟩, hbel⟩
end Go.Proofs.YtajnfkmkombajabGreatDoor
