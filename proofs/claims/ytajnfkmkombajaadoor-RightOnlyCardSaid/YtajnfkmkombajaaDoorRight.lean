/- Contracts of package right: Baker. -/
import Derived.Test.YtajnfkmkombajaaDoorDrawOps
import Derived.Test.YtajnfkmkombajaaDoorBelow
set_option linter.unusedVariables false
set_option linter.unusedSimpArgs false
namespace Go.Proofs.YtajnfkmkombajaaDoor
open Go.RowKit

theorem lotAdv_bd (x : Int) : 0 ≤ lotAdv x ∧ lotAdv x < 18446744073709551616 := by
  unfold lotAdv; rw [IntKind.wrap_u64]; omega
theorem mix1_nat (s n : Int) : ∃ m : Nat, m < 18446744073709551616 ∧ mix1 s n = (m : Int) := by
  unfold mix1
  have hb := lotAdv_bd (bits BinOp.xor IntKind.u64 s (IntKind.u64.wrap n))
  obtain ⟨m, hm⟩ := Int.eq_ofNat_of_zero_le hb.1
  rw [hm] at hb ⊢
  exact ⟨lotN m, lotN_lt m, lotOut_nat m (by omega)⟩
theorem mixL_nat (s : Nat) (hs : s < 18446744073709551616) (l : List Int) : ∃ m : Nat, m < 18446744073709551616 ∧ mixL (s : Int) l = (m : Int) := by
  rcases List.eq_nil_or_concat l with rfl | ⟨l', x, rfl⟩
  · exact ⟨s, hs, rfl⟩
  · rw [List.concat_eq_append, mixL_snoc]; exact mix1_nat _ _

/-- the lots of a round -/
noncomputable def roundSeed (s : Int) (c l r : Int) : Nat := (mixL s [c, l, r]).toNat
/-- who bakes -/
noncomputable def bakerV (zs : List Int) (s : Int) (c l r : Int) : Int :=
  pickOf (vose zs) (belowN (roundSeed s c l r) zs.length) (belowN (belowS (roundSeed s c l r) zs.length) zs.sum.toNat : Nat)
def roundOk (c l r : Int) : Prop := (0 ≤ c ∧ c ≤ 1048576) ∧ (0 ≤ l ∧ l ≤ 4194304) ∧ (0 ≤ r ∧ r < 8)
instance (c l r : Int) : Decidable (roundOk c l r) := by unfold roundOk; infer_instance
def bakerF (zs : List Int) (c l r : Int) : Nat × Int := if roundOk c l r then weightsF zs else (2, -1)

def BakerPost (A : Nat → Addr) (zs : List Int) (s c l r : Int) (w : World) (e : Ending) (w' : World) : Prop :=
  ∃ v, e = .returned (.tuple #[.int .i64 (if (bakerF zs c l r).1 = 0 then bakerV zs s c l r else 0), v]) ∧ ErrIs A w w' v (bakerF zs c l r) ∧ Below w.heap.size w w'

theorem bakerV_weight {zs : List Int} (hf : (weightsF zs).1 = 0) (s c l r : Int) : ∃ k : Nat, bakerV zs s c l r = (k : Int) ∧ k < zs.length ∧ 0 < zs.getD k 0 := by
  obtain ⟨_, h1, h64, hz, hs1, hs2⟩ := weights_ok hf
  refine pick_weight (vose_just zs (fun x hx => (hz x hx).1)) (belowN_lt h1) (by omega) ?_
  have := belowN_lt (s := belowS (roundSeed s c l r) zs.length) (n := zs.sum.toNat) (by omega)
  omega

set_option maxRecDepth 8000 in
theorem baker_out (A : Nat → Addr) (S : List Nat) (ao : Option Addr) (len cap : Nat) (zs : List Int) (s c l r : Int) (w : World) (hE : Errs A S w) (h2 : 2 ∈ S) (hr : ¬ roundOk c l r) :
    Calls Tryd.prog 77 #[.slice ao len cap, .int .u64 s, .int .i64 c, .int .i64 l, .int .i64 r] w (BakerPost A zs s c l r w) := by
  have g2 : w.cell? ⟨1, 0, none⟩ = some (.iface 111 (.pointer (some (A 2)))) := hE.cell 2 h2
  have HF := Lib.hid (show bakerF zs c l r = (2, -1) from if_neg hr)
  have hcases : c < 0 ∨ (decide (c < 0) = false ∧ 1048576 < c) ∨ (decide (c < 0) = false ∧ decide (1048576 < c) = false ∧ l < 0) ∨ (decide (c < 0) = false ∧ decide (1048576 < c) = false ∧ decide (l < 0) = false ∧ 4194304 < l) ∨
      (decide (c < 0) = false ∧ decide (1048576 < c) = false ∧ decide (l < 0) = false ∧ decide (4194304 < l) = false ∧ r < 0) ∨ (decide (c < 0) = false ∧ decide (1048576 < c) = false ∧ decide (l < 0) = false ∧ decide (4194304 < l) = false ∧ decide (r < 0) = false ∧ 8 ≤ r) := by
    unfold roundOk at hr
    simp only [decide_eq_false_iff_not]; omega
  clear hE hr
  rcases hcases with h | ⟨d1, h⟩ | ⟨d1, d2, h⟩ | ⟨d1, d2, d3, h⟩ | ⟨d1, d2, d3, d4, h⟩ | ⟨d1, d2, d3, d4, d5, h⟩
  all_goals
    go_enter Tryd.func77, Tryd.ntmps77
    go_wp2_with fail
    go_quiet (fail)
    go_wp2_with fail
    go_ret2
    exact ⟨_, by rw [HF.out]; rfl, by rw [HF.out]; exact .inl ⟨rfl, rfl⟩, (Below.refl _ _).drewN _⟩

set_option maxRecDepth 8000 in
set_option maxHeartbeats 1000000 in
theorem baker_in (A : Nat → Addr) (S : List Nat) (ao : Option Addr) (cap : Nat) (zs : List Int) (s : Nat) (hs : s < 18446744073709551616) (c l r : Int) (w : World) (R : RdI .i64 w ao zs.length cap zs) (hE : Errs A S w) (h2 : 2 ∈ S) (h3 : 3 ∈ S) (h4 : 4 ∈ S) (hr : roundOk c l r) :
    Calls Tryd.prog 77 #[.slice ao zs.length cap, .int .u64 s, .int .i64 c, .int .i64 l, .int .i64 r] w (BakerPost A zs s c l r w) := by
  have hF : bakerF zs c l r = weightsF zs := if_pos hr
  have HF := Lib.hid hF; clear hF
  obtain ⟨⟨c0, c1⟩, ⟨l0, l1⟩, ⟨r0, r1⟩⟩ := hr
  have d1 : decide (c < 0) = false := decide_eq_false (by omega)
  have d2 : decide (1048576 < c) = false := decide_eq_false (by omega)
  have d3 : decide (l < 0) = false := decide_eq_false (by omega)
  have d4 : decide (4194304 < l) = false := decide_eq_false (by omega)
  have d5 : decide (r < 0) = false := decide_eq_false (by omega)
  have d6 : decide (8 ≤ r) = false := decide_eq_false (by omega)
  obtain ⟨m, hm, hmix⟩ := mixL_nat s hs [c, l, r]
  have hseed : roundSeed s c l r = m := by unfold roundSeed; rw [hmix]; rfl
  have hV := fun wx => draw_New A S ao cap zs wx
  have HNew := Lib.hid hV; clear hV
  have HR := Lib.hid R; have HE := Lib.hid hE; have HM := Lib.hid hmix; have HSd := Lib.hid hseed; have HMl := Lib.hid hm
  have HPick := Lib.hid (fun b cb k a wx hd => draw_Pick_in b cb zs k a wx hd)
  have HCols := Lib.hid (fun b cb wx hd => draw_Columns b cb zs wx hd)
  have HHi := Lib.hid (fun b cb wx hd => draw_Height b cb zs wx hd)
  have HVal := Lib.hid (show bakerV zs s c l r = pickOf (vose zs) (belowN m zs.length) (belowN (belowS m zs.length) zs.sum.toNat : Nat) by unfold bakerV; rw [hseed])
  clear R hE hmix hseed hm c0 c1 l0 l1 r0 r1 hs
  generalize hn : zs.length = n at *
  have Hn := Lib.hid hn; clear hn
  generalize hH : zs.sum = H at *
  have HH := Lib.hid hH; clear hH
  go_enter Tryd.func77, Tryd.ntmps77
  go_wp2_with fail
  refine (HNew.out _ HR.out HE.out h2 h3 h4).mono ?_
  rintro e w1 ⟨p, v, rfl, hv, hb1, hp⟩
  rcases hp with ⟨hf, rfl⟩ | ⟨hf, b, cb, rfl, nb, nc, D⟩
  · obtain ⟨t, x, rfl⟩ := hv.no hf
    have HV := Lib.hid hv; have HB := Lib.hid hb1; have Hf := Lib.hid hf
    clear hv hb1 hf
    go_wp2_with fail
    go_ret2
    exact ⟨_, by rw [HF.out, if_neg Hf.out]; rfl, by rw [HF.out]; exact HV.out, HB.out⟩
  · obtain ⟨hwf, hl1, hl64, hz, hs1, hs2⟩ := weights_ok hf
    rw [hwf] at hv
    have hv0 := hv.yes rfl rfl
    subst hv0
    rw [Hn.out] at hl1 hl64
    rw [HH.out] at hs1 hs2
    obtain ⟨h, rfl⟩ := Int.eq_ofNat_of_zero_le (show 0 ≤ H by omega)
    have HZ := Lib.hid (fun x hx => (hz x hx).1)
    have HW := Lib.hid hwf; have HB := Lib.hid hb1; have HD := Lib.hid D
    clear hv hf hwf hz hb1 D
    go_wp2_with fail
    have R3 := RdI.of_rowAt (k := .i64) (zs := [c, l, r]) (RowAt.new w1 3 [.int .i64 c, .int .i64 l, .int .i64 r]) (by unfold maxLen; simp)
    have b2 := HB.out.alloc HB.out.size (.cells #[.int .i64 c, .int .i64 l, .int .i64 r] 3)
    have D2 : DrawAt b cb zs (w1.alloc (.cells #[.int .i64 c, .int .i64 l, .int .i64 r] 3)) := ⟨HD.out.d.alloc _, HD.out.c.alloc _⟩
    refine (lots_Mix (s : Int) _ _ _ [c, l, r] _ R3).mono ?_
    rintro e w2 ⟨rfl, hb2⟩
    rw [HM.out]
    have b3 := btrans b2 hb2
    have D3 := D2.below hb2
    clear R3 b2 D2 hb2
    have HB3 := Lib.hid b3; have HD3 := Lib.hid D3
    clear b3 D3
    go_wp2_with fail
    refine (lots_New (m : Int) _).mono ?_
    rintro e w' ⟨rfl, rfl⟩
    have L4 : LotsAt w2.heap.size m (w2.alloc (.cells #[.int .u64 (m : Int)] 115)) := RowAt.new w2 115 [.int .u64 (m : Int)]
    have b4 := HB3.out.alloc HB3.out.size (.cells #[.int .u64 (m : Int)] 115)
    have D4 : DrawAt b cb zs (w2.alloc (.cells #[.int .u64 (m : Int)] 115)) := ⟨HD3.out.d.alloc _, HD3.out.c.alloc _⟩
    have hbl : b < w2.heap.size := HD3.out.d.lt
    have hcl : cb < w2.heap.size := HD3.out.c.lt
    have HL4 := Lib.hid L4; have HB4 := Lib.hid b4; have HD4 := Lib.hid D4
    clear L4 b4 D4
    go_wp2_with fail
    refine (HCols.out b cb _ HD4.out).mono ?_
    rintro e w' ⟨rfl, rfl⟩
    go_wp2_with fail
    refine (lots_Below_in w2.heap.size m n _ HMl.out hl1 (by omega) HL4.out).mono ?_
    rintro e w5 ⟨rfl, k5, L5⟩
    have D5 := HD4.out.keep k5 (by omega) (by omega)
    have b5 : Below w.heap.size w w5 := Keep.after HB4.out k5 (fun i hi => by have := HB3.out.size; omega)
    have HL5 := Lib.hid L5; have HB5 := Lib.hid b5; have HD5 := Lib.hid D5
    clear L5 b5 D5 k5
    have hlt5 := belowS_lt m n
    have hcol := belowN_lt (s := m) hl1
    have HS5 := Lib.hid hlt5; clear hlt5
    generalize belowS m n = s5 at *
    generalize belowN m n = col at *
    go_wp2_with fail
    refine (HHi.out b cb _ HD5.out).mono ?_
    rintro e w' ⟨rfl, rfl⟩
    go_wp2_with fail
    refine (lots_Below_in w2.heap.size s5 h _ HS5.out (by omega) (by omega) HL5.out).mono ?_
    rintro e w6 ⟨rfl, k6, L6⟩
    have D6 := HD5.out.keep k6 (by omega) (by omega)
    have b6 : Below w.heap.size w w6 := Keep.after HB5.out k6 (fun i hi => by have := HB3.out.size; omega)
    have HB6 := Lib.hid b6; have HD6 := Lib.hid D6
    clear L6 b6 D6 k6
    have hat := belowN_lt (s := s5) (n := h) (by omega)
    rw [Int.toNat_natCast] at HVal
    generalize belowN s5 h = at_ at *
    go_wp2_with fail
    refine (HPick.out b cb col (at_ : Int) _ HD6.out HZ.out hcol (by omega) (by omega)).mono ?_
    rintro e w7 ⟨rfl, nq, rfl⟩
    go_wp2_with fail
    go_ret2
    exact ⟨_, by rw [HF.out, HW.out, HVal.out]; rfl, by rw [HF.out, HW.out]; exact .inl ⟨rfl, rfl⟩, HB6.out.drewN _⟩

theorem right_Baker (A : Nat → Addr) (S : List Nat) (ao : Option Addr) (cap : Nat) (zs : List Int) (s : Nat) (hs : s < 18446744073709551616) (c l r : Int) (w : World) (R : RdI .i64 w ao zs.length cap zs) (hE : Errs A S w) (h2 : 2 ∈ S) (h3 : 3 ∈ S) (h4 : 4 ∈ S) :
    Calls Tryd.prog 77 #[.slice ao zs.length cap, .int .u64 s, .int .i64 c, .int .i64 l, .int .i64 r] w (BakerPost A zs s c l r w) := by
  by_cases hr : roundOk c l r
  · exact baker_in A S ao cap zs s hs c l r w R hE h2 h3 h4 hr
  · exact baker_out A S ao zs.length cap zs s c l r w hE h2 hr
end Go.Proofs.YtajnfkmkombajaaDoor
