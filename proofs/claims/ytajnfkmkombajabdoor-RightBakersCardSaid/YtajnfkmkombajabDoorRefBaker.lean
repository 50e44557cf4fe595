/- Contract of the document's BakerOf. -/
import Derived.Test.YtajnfkmkombajabDoorRefDraw2
import Derived.Test.YtajnfkmkombajabDoorRefLots
import Derived.Test.YtajnfkmkombajabDoorRight
set_option linter.unusedVariables false
set_option linter.unusedSimpArgs false
namespace Go.Proofs.YtajnfkmkombajabDoor
open Go.RowKit

/-- a number, and a struct of two out of its own block -/
theorem ret_num_pair {P : Program} {fn : Func} {u p : Tmp} {ty : TypeId} (h : fn.results = #[.tmp u, .cell p ty]) (tmps : Array Value) (w : World) (g : Nat) (t : TypeId) (x y z : Value) (fr : Nat × Nat) (d : TypeDesc)
    (hz : tmps.getD u undef = z) (hp : tmps.getD p undef = .pointer (some ⟨g, 0, none⟩)) (hg : w.heap[g]? = some (.cells #[x, y] t fr))
    (hu : P.underlying ty = some d) (hd : (match d with | .struct _ | .array _ _ => true | _ => false) = true) (hi : (P.info? ty).map (·.size) = some 2) :
    (results fn tmps).run P w = .ok (.tuple #[z, .agg #[x, y]]) w := by
  have hp' : tmps[p]?.getD undef = .pointer (some ⟨g, 0, none⟩) := by simpa using hp
  have hz' : tmps[u]?.getD undef = z := by simpa using hz
  simp [results, h, hp', hz', asAddr, run_loadVar_row w g t ty #[x, y] fr d hg hu hd hi, Result.andThen]

def BakerOfPost (zs : List Int) (s c l r : Int) (w : World) (e : Ending) (w' : World) : Prop :=
  e = .returned (.tuple #[.int .i64 (if (bakerF zs c l r).1 = 0 then bakerV zs s c l r else 0), .agg #[.int .i64 (bakerF zs c l r).1, .int .i64 (bakerF zs c l r).2]]) ∧ Below w.heap.size w w'
theorem bakerOf_bad {zs : List Int} {s c l r : Int} {k : Nat} {a : Int} {w W : World} (h : bakerF zs c l r = (k, a)) (hk : k ≠ 0) (hb : Below w.heap.size w W) : BakerOfPost zs s c l r w (.returned (.tuple #[.int .i64 0, .agg #[.int .i64 k, .int .i64 a]])) W := by
  unfold BakerOfPost; rw [h, if_neg hk]; exact ⟨rfl, hb⟩
theorem bakerOf_ok {zs : List Int} {s c l r v : Int} {w W : World} (h : bakerF zs c l r = (0, -1)) (hv : bakerV zs s c l r = v) (hb : Below w.heap.size w W) : BakerOfPost zs s c l r w (.returned (.tuple #[.int .i64 v, .agg #[.int .i64 0, .int .i64 (-1)]])) W := by
  unfold BakerOfPost; rw [h, if_pos rfl, hv]; exact ⟨rfl, hb⟩

/-- the two boxes of BakerOf -/
structure BO (w0 : World) (g0 g1 : Nat) (w : World) : Prop where
  below : Below w0.heap.size w0 w
  r0 : RowAt g0 72 [.int .i64 0, .int .i64 0] w
  r1 : RowAt g1 72 [.int .i64 0, .int .i64 (-1)] w
  n0 : w0.heap.size ≤ g0
  n1 : w0.heap.size ≤ g1
theorem BO.next {w0 w w' : World} {g0 g1 : Nat} (h : BO w0 g0 g1 w) (k : Below w.heap.size w w') : BO w0 g0 g1 w' := ⟨btrans h.below k, h.r0.below k h.r0.lt, h.r1.below k h.r1.lt, h.n0, h.n1⟩
theorem BO.keep {w0 w w' : World} {g0 g1 b : Nat} (h : BO w0 g0 g1 w) (k : Keep (· = b) w w') (hb : w0.heap.size ≤ b) (h0 : g0 ≠ b) (h1 : g1 ≠ b) : BO w0 g0 g1 w' :=
  ⟨Keep.after h.below k (fun i hi => by rw [hi]; exact hb), h.r0.keep k h0, h.r1.keep k h1, h.n0, h.n1⟩
theorem BO.drewN {w0 w : World} {g0 g1 : Nat} (h : BO w0 g0 g1 w) (n : Nat) : BO w0 g0 g1 (w.drewN n) := h.next ((Below.refl _ _).drewN n)

set_option maxRecDepth 8000 in
set_option maxHeartbeats 2000000 in
theorem ref_BakerOf (ao : Option Addr) (cap : Nat) (zs : List Int) (s : Nat) (hs : s < 18446744073709551616) (c l r : Int) (w : World) (R : RdI .i64 w ao zs.length cap zs) :
    Calls Tryd.prog 65 #[.slice ao zs.length cap, .int .u64 s, .int .i64 c, .int .i64 l, .int .i64 r] w (BakerOfPost zs s c l r w) := by
  by_cases hr : roundOk c l r
  · have HF := Lib.hid (show bakerF zs c l r = weightsF zs from if_pos hr)
    obtain ⟨⟨c0, c1⟩, ⟨l0, l1⟩, ⟨r0, r1⟩⟩ := hr
    have d1 : decide (c < 0) = false := decide_eq_false (by omega)
    have d2 : decide (1048576 < c) = false := decide_eq_false (by omega)
    have d3 : decide (l < 0) = false := decide_eq_false (by omega)
    have d4 : decide (4194304 < l) = false := decide_eq_false (by omega)
    have d5 : decide (r < 0) = false := decide_eq_false (by omega)
    have d6 : decide (8 ≤ r) = false := decide_eq_false (by omega)
    obtain ⟨m, hm, hmix⟩ := mixL_nat s hs [c, l, r]
    have hseed : roundSeed s c l r = m := by unfold roundSeed; rw [hmix]; rfl
    have HR := Lib.hid R; have HM := Lib.hid hmix; have HMl := Lib.hid hm
    have HVal := Lib.hid (show bakerV zs s c l r = pickOf (vose zs) (belowN m zs.length) (belowN (belowS m zs.length) zs.sum.toNat : Nat) by unfold bakerV; rw [hseed])
    have HPick := Lib.hid (fun db lb ob k a wx hd => refd_Pick db lb ob zs k a wx hd)
    have HRN := Lib.hid (fun wx hx hw => ref_NewDraw wx ao cap zs hx hw)
    have HWF := Lib.hid (fun wx hx => ref_WeightsFault ao zs.length cap zs wx hx)
    have HH := Lib.hid (fun db lb ob wx (h : RDrawAt db lb ob zs wx) => h.high)
    clear R hmix hseed hm c0 c1 l0 l1 r0 r1 hs
    by_cases hf : (weightsF zs).1 = 0
    · obtain ⟨hwf, hl1, hl64, hz, hs1, hs2⟩ := weights_ok hf
      have HWOK := Lib.hid (show weightsOk zs from ⟨hl1, hl64, hz, hs1, hs2⟩)
      have HZ := Lib.hid (fun x hx => (hz x hx).1)
      rw [hwf] at HF
      have HWF0 := Lib.hid hwf
      have hbl := belowN_lt (s := m) hl1
      clear hwf hf hz
      generalize hn : zs.length = n at *
      have Hn := Lib.hid hn; clear hn
      obtain ⟨H, hH⟩ := Int.eq_ofNat_of_zero_le (show 0 ≤ zs.sum by omega)
      rw [hH] at hs1 hs2 HVal HH
      have HtN : (Int.ofNat H).toNat = H := rfl
      rw [show ((H : Int)).toNat = H from rfl] at HVal
      have h1H : 1 ≤ H := by omega
      have h2H : H ≤ 1125899906842624 := by omega
      have h2n : n ≤ 1125899906842624 := by omega
      have hb2 := belowS_lt m n
      clear hH HtN hs1 hs2
      go_enter Tryd.func65, Tryd.ntmps65
      go_wp2_with fail
      have hb1 := Lib.hid (show Below w.heap.size w (w.alloc (.cells #[.int .i64 0, .int .i64 0] 72)) from (Below.refl _ _).alloc (Nat.le_refl _) _)
      refine (HWF.out _ (HR.out.below hb1.out)).mono ?_
      rintro e w3 ⟨rfl, hb3⟩
      rw [HWF0.out]
      have M0 := Lib.hid (show BO w w.heap.size w3.heap.size (w3.alloc (.cells #[.int .i64 0, .int .i64 (-1)] 72)) from
        ⟨(btrans hb1.out hb3).alloc (btrans hb1.out hb3).size _, ((RowAt.new w 72 [.int .i64 0, .int .i64 0]).below hb3 (by simp)).alloc _, RowAt.new w3 72 [.int .i64 0, .int .i64 (-1)], Nat.le_refl _, (btrans hb1.out hb3).size⟩)
      have hg0 : w.heap.size < w3.heap.size := by have := hb3.size; simp at this; omega
      clear hb3 hb1
      go_wp2_with fail
      refine (HRN.out _ (HR.out.below M0.out.below) HWOK.out).mono ?_
      rintro e w5 ⟨db, lb, ob, rfl, hb5, n1, n2, n3, hr5⟩
      have M5 := Lib.hid (M0.out.next hb5)
      have HD5 := Lib.hid hr5
      have hs5 := hb5.size
      simp at hs5 n1 n2 n3
      clear hb5 hr5
      go_wp2_with fail
      have hb6 := Lib.hid (show Below w5.heap.size w5 (w5.alloc (.cells #[.int .i64 c, .int .i64 l, .int .i64 r] 3)) from (Below.refl _ _).alloc (Nat.le_refl _) _)
      have HR3 := Lib.hid (RdI.of_rowAt (k := .i64) (zs := [c, l, r]) (RowAt.new w5 3 [.int .i64 c, .int .i64 l, .int .i64 r]) (by simp [maxLen]))
      refine (ref_MixOf (s : Int) _ 3 3 [c, l, r] _ HR3.out).mono ?_
      rintro e w6 ⟨rfl, hb7⟩
      rw [HM.out]
      have hb56 := Lib.hid (btrans hb6.out hb7)
      clear hb7
      have hs6 := hb56.out.size
      go_wp2_with fail
      have hb8 := Lib.hid (show Below w5.heap.size w5 (w6.alloc (.cells #[.int .u64 (m : Int)] 157)) from hb56.out.alloc hb56.out.size _)
      have M8 := Lib.hid (M5.out.next hb8.out)
      have HD8 := Lib.hid (HD5.out.below hb8.out)
      have HL8 := Lib.hid (show RLotsAt w6.heap.size m (w6.alloc (.cells #[.int .u64 (m : Int)] 157)) from RowAt.new w6 157 [.int .u64 (m : Int)])
      refine (refl_Below w6.heap.size m n _ HMl.out hl1 h2n HL8.out).mono ?_
      rintro e w9 ⟨rfl, hk9, hl9⟩
      have M9 := Lib.hid (M8.out.keep hk9 (by omega) (by omega) (by omega))
      have HD9 := Lib.hid (HD8.out.keep hk9 (by have := HD5.out.d.lt; omega) (by have := HD5.out.l.lt; omega) (by have := HD5.out.o.lt; omega))
      have HL9 := Lib.hid hl9
      clear hk9 hl9
      have q1 := HH.out _ _ _ _ HD9.out
      go_wp2_with fail
      refine (refl_Below w6.heap.size (belowS m n) H _ hb2 h1H h2H HL9.out).mono ?_
      rintro e w10 ⟨rfl, hk10, hl10⟩
      have M10 := Lib.hid (M9.out.keep hk10 (by omega) (by omega) (by omega))
      have HD10 := Lib.hid (HD9.out.keep hk10 (by have := HD5.out.d.lt; omega) (by have := HD5.out.l.lt; omega) (by have := HD5.out.o.lt; omega))
      clear hk10 hl10 q1
      have HPC := Lib.hid (fun wx hd => HPick.out db lb ob (belowN m n) (belowN (belowS m n) H : Nat) wx hd HZ.out hbl)
      generalize pickOf (vose zs) (belowN m n) (belowN (belowS m n) H : Nat) = v at *
      have i0 := M10.out.r0.cell 0; have i1 := M10.out.r0.cell 1; have j0 := M10.out.r1.cell 0; have j1 := M10.out.r1.cell 1
      have f0 := M10.out.r0.frozen 0; have f1 := M10.out.r0.frozen 1
      simp at i0 i1 j0 j1
      have M10' := Lib.hid (M10.out.drewN 1)
      have HPC1 := Lib.hid (HPC.out w10.drew (HD10.out.below ((Below.refl _ _).drewN 1)))
      go_wp2_with fail
      go_region_with (go_at_call 52; refine HPC1.out.mono ?_; rintro e w' ⟨rfl, rfl⟩)
      all_goals go_wp2_with fail
      all_goals
        (try simp only [Exit.inBlock, Exit.then])
        refine bodyPost_ret (v := .tuple #[.int .i64 v, .agg #[.int .i64 0, .int .i64 (-1)]]) (ret_num_pair rfl _ _ w.heap.size _ _ _ _ _ _ rfl rfl (by first | exact (M10.out.r0.set 0 (.int .i64 0)).set 1 (.int .i64 (-1))) Tryd.underlying72 rfl (by kernel_rfl)) rfl (bakerOf_ok HF.out HVal.out ?_)
        exact ((M10.out.below.setCell M10.out.n0 _).setCell M10.out.n0 _).drewN 1
    · generalize hk : (weightsF zs).1 = k at *
      generalize ha : (weightsF zs).2 = a at *
      have HK := Lib.hid (show weightsF zs = (k, a) by rw [← hk, ← ha])
      have e2 : decide (0 < k) = true := by simp; omega
      have e3 : decide ((0 : Int) < (k : Int)) = true := by simp; omega
      have HF2 := Lib.hid (show bakerF zs c l r = (k, a) by rw [HF.out, HK.out])
      have Hk := Lib.hid hf
      generalize zs.length = n at *
      clear hf hk ha HVal HPick HRN HH
      go_enter Tryd.func65, Tryd.ntmps65
      go_wp2_with fail
      have hb1 := Lib.hid (show Below w.heap.size w (w.alloc (.cells #[.int .i64 0, .int .i64 0] 72)) from (Below.refl _ _).alloc (Nat.le_refl _) _)
      refine (HWF.out _ (HR.out.below hb1.out)).mono ?_
      rintro e w3 ⟨rfl, hb3⟩
      rw [HK.out]
      have hg0 : w.heap.size < w3.heap.size := by have := hb3.size; simp at this; omega
      have HB3 := Lib.hid (btrans hb1.out hb3)
      have H0 := Lib.hid ((RowAt.new w 72 [.int .i64 0, .int .i64 0]).below hb3 (by simp))
      have i0 := H0.out.cell 0; have i1 := H0.out.cell 1; have f0 := H0.out.frozen 0; have f1 := H0.out.frozen 1
      simp at i0 i1
      clear hb3 hb1
      go_wp2_with fail
      go_region
      all_goals go_wp2_with fail
      all_goals
        (try simp only [Exit.inBlock, Exit.then])
        refine bodyPost_ret (v := .tuple #[.int .i64 0, .agg #[.int .i64 k, .int .i64 a]]) (ret_num_pair rfl _ _ w.heap.size _ _ _ _ _ _ rfl rfl (by first | exact ((H0.out.set 0 (.int .i64 k)).set 1 (.int .i64 a)).alloc _) Tryd.underlying72 rfl (by kernel_rfl)) rfl (bakerOf_bad HF2.out Hk.out ?_)
        have hB := (HB3.out.setCell (p := ⟨w.heap.size, 0, none⟩) (Nat.le_refl _) (.int .i64 k)).setCell (p := ⟨w.heap.size, 1, none⟩) (Nat.le_refl _) (.int .i64 a)
        exact (hB.alloc hB.size _).drewN 1
  · have HF := Lib.hid (show bakerF zs c l r = (2, -1) from if_neg hr)
    have hcases : c < 0 ∨ (decide (c < 0) = false ∧ 1048576 < c) ∨ (decide (c < 0) = false ∧ decide (1048576 < c) = false ∧ l < 0) ∨ (decide (c < 0) = false ∧ decide (1048576 < c) = false ∧ decide (l < 0) = false ∧ 4194304 < l) ∨
        (decide (c < 0) = false ∧ decide (1048576 < c) = false ∧ decide (l < 0) = false ∧ decide (4194304 < l) = false ∧ r < 0) ∨ (decide (c < 0) = false ∧ decide (1048576 < c) = false ∧ decide (l < 0) = false ∧ decide (4194304 < l) = false ∧ decide (r < 0) = false ∧ 8 ≤ r) := by
      unfold roundOk at hr
      simp only [decide_eq_false_iff_not]; omega
    clear R hr
    rcases hcases with h | ⟨d1, h⟩ | ⟨d1, d2, h⟩ | ⟨d1, d2, d3, h⟩ | ⟨d1, d2, d3, d4, h⟩ | ⟨d1, d2, d3, d4, d5, h⟩
    all_goals
      go_enter Tryd.func65, Tryd.ntmps65
      go_wp2_with (go_at_call 61; refine (ref_Bare _ _).mono ?_; rintro e w' ⟨rfl, rfl⟩)
      (try simp only [Exit.inBlock, Exit.then])
      refine bodyPost_ret (v := .tuple #[.int .i64 0, .agg #[.int .i64 2, .int .i64 (-1)]]) (ret_num_pair rfl _ _ w.heap.size _ _ _ _ _ _ rfl rfl (by first | exact heap_two _ _ _ | exact heap_alloc_new _ _) Tryd.underlying72 rfl (by kernel_rfl)) rfl (bakerOf_bad (k := 2) HF.out (by decide) (((Below.refl _ _).alloc (Nat.le_refl _) _).alloc (by simp) _))
end Go.Proofs.YtajnfkmkombajabDoor
