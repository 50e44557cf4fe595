/- The walk of RightBakers. -/
import Derived.Test.YtajnfkmkombajabDoorRightOnlyW
import Derived.Test.YtajnfkmkombajabDoorRefBaker
import Derived.Test.YtajnfkmkombajabDoorOwnInts
import Derived.Test.YtajnfkmkombajabDoorFaulted2
set_option linter.unusedVariables false
set_option linter.unusedSimpArgs false
namespace Go.Proofs.YtajnfkmkombajabDoor
open Go.RowKit

theorem bakerF_le (zs : List Int) (c l r : Int) : (bakerF zs c l r).1 ≤ 10 ∧ ((bakerF zs c l r).2 ≠ -1 → (bakerF zs c l r).1 ≠ 0) := by
  unfold bakerF weightsF
  repeat' split
  all_goals simp

/-- the bakers of all rounds lie in a block -/
structure BR (w0 : World) (b off : Nat) (ov : Nat → Int) (w : World) : Prop where
  below : Below w0.heap.size w0 w
  lt : b < w.heap.size
  cell : ∀ j, j < 8 → w.cell? ⟨b, off + j, none⟩ = some (.int .i64 (ov j))
theorem BR.next {w0 w w' : World} {b off : Nat} {ov : Nat → Int} (h : BR w0 b off ov w) (k : Below w.heap.size w w') : BR w0 b off ov w' :=
  ⟨btrans h.below k, Nat.lt_of_lt_of_le h.lt k.size, fun j hj => by rw [k.cell (p := ⟨b, off + j, none⟩) h.lt]; exact h.cell j hj⟩

set_option maxRecDepth 8000 in
set_option maxHeartbeats 2000000 in
theorem bakers_walk (A : Nat → Addr) (ao : Option Addr) (cap : Nat) (zs : List Int) (s : Nat) (hs : s < 18446744073709551616) (c l r : Int) (w : World) (hS : Sents A w) (R : RdI .i64 w ao zs.length cap zs) (hl : zs.length ≤ 100) :
    Calls Tryd.prog 9 #[.slice ao zs.length cap, .int .u64 s, .int .i64 c, .int .i64 l, .int .i64 r] w fun e w' => e = .returned (.bool true) ∧ Below w.heap.size w w' := by
  have HS := Lib.hid hS; clear hS
  have HR := Lib.hid R; clear R
  have m2 : (2 : Nat) ∈ [1, 2, 3, 4, 5, 6, 7, 8, 9, 10] := by decide
  have m3 : (3 : Nat) ∈ [1, 2, 3, 4, 5, 6, 7, 8, 9, 10] := by decide
  have m4 : (4 : Nat) ∈ [1, 2, 3, 4, 5, 6, 7, 8, 9, 10] := by decide
  have d1 : decide ((100 : Int) < (zs.length : Int)) = false := by simp; omega
  have HOwn := Lib.hid (fun wx hx => law_OwnInts ao zs.length cap zs wx hx (by omega))
  obtain ⟨kv, hkv0⟩ : ∃ kv, (if (bakerF zs c l r).1 = 0 then bakerV zs s c l r else 0) = kv := ⟨_, rfl⟩
  obtain ⟨kv0, hkv1⟩ : ∃ kv, (if (bakerF zs c l 0).1 = 0 then bakerV zs s c l 0 else 0) = kv := ⟨_, rfl⟩
  have HBk := Lib.hid (fun aox capx (wx : World) (hx : RdI .i64 wx aox zs.length capx zs) (hE : Errs A [1, 2, 3, 4, 5, 6, 7, 8, 9, 10] wx) => ((right_Baker A [1, 2, 3, 4, 5, 6, 7, 8, 9, 10] aox capx zs s hs c l r wx hx hE m2 m3 m4).mono (fun e w' ⟨v, he, h1, h2⟩ => ⟨v, by rw [he, hkv0], h1, h2⟩) :
    Calls Tryd.prog 64 #[.slice aox zs.length capx, .int .u64 s, .int .i64 c, .int .i64 l, .int .i64 r] wx fun e w' => ∃ v, e = .returned (.tuple #[.int .i64 kv, v]) ∧ ErrIs A wx w' v (bakerF zs c l r) ∧ Below wx.heap.size wx w'))
  have HBr := Lib.hid (fun (wx : World) (hx : RdI .i64 wx ao zs.length cap zs) => ((ref_BakerOf ao cap zs s hs c l r wx hx).mono (fun e w' ⟨he, h2⟩ => ⟨by rw [he, hkv0], h2⟩) :
    Calls Tryd.prog 65 #[.slice ao zs.length cap, .int .u64 s, .int .i64 c, .int .i64 l, .int .i64 r] wx fun e w' => e = .returned (.tuple #[.int .i64 kv, .agg #[.int .i64 (bakerF zs c l r).1, .int .i64 (bakerF zs c l r).2]]) ∧ Below wx.heap.size wx w'))
  have HB0 := Lib.hid (fun (wx : World) (hx : RdI .i64 wx ao zs.length cap zs) => ((ref_BakerOf ao cap zs s hs c l 0 wx hx).mono (fun e w' ⟨he, h2⟩ => ⟨by rw [he, hkv1], h2⟩) :
    Calls Tryd.prog 65 #[.slice ao zs.length cap, .int .u64 s, .int .i64 c, .int .i64 l, .int .i64 0] wx fun e w' => e = .returned (.tuple #[.int .i64 kv0, .agg #[.int .i64 (bakerF zs c l 0).1, .int .i64 (bakerF zs c l 0).2]]) ∧ Below wx.heap.size wx w'))
  have HBo := Lib.hid (fun (h0 : (bakerF zs c l 0).1 = 0) (k : Nat) (hk : k < 8) (wx : World) (hx : RdI .i64 wx ao zs.length cap zs) => ((ref_BakerOf ao cap zs s hs c l k wx hx).mono (fun e w' ⟨he, h2⟩ => ⟨by rw [he, bakerF_round zs c l k hk, if_pos h0, h0, (bakerF_zero h0).1]; rfl, h2⟩) :
    Calls Tryd.prog 65 #[.slice ao zs.length cap, .int .u64 s, .int .i64 c, .int .i64 l, .int .i64 k] wx fun e w' => e = .returned (.tuple #[.int .i64 (bakerV zs s c l k), .agg #[.int .i64 0, .int .i64 (-1)]]) ∧ Below wx.heap.size wx w'))
  have HRo := Lib.hid (fun aox capx wx hx hE => right_Rounds A [1, 2, 3, 4, 5, 6, 7, 8, 9, 10] aox capx zs s hs c l wx hx hE m2 m3 m4)
  have HLE := Lib.hid (fun r => bakerF_le zs c l r)
  have Hkk := Lib.hid hkv0; have Hkk1 := Lib.hid hkv1
  have HZ := Lib.hid (fun (h : (bakerF zs c l 0).1 = 0) => (bakerF_zero h).2)
  have HW := Lib.hid (fun (h : (weightsF zs).1 = 0) r => bakerV_weight h s c l r)
  generalize hn : zs.length = n at *
  have Hn := Lib.hid hn; clear hn hs hkv0 hkv1
  go_enter Tryd.func9, Tryd.ntmps9
  go_wp2_with fail
  refine (law_entitled A _ _ HS.out.errs m2 m3 m4).mono ?_
  rintro e w0 ⟨rfl, hb0⟩
  go_wp2_with fail
  refine (HOwn.out _ (HR.out.below hb0)).mono ?_
  rintro e w1 ⟨ao1, cap1, rfl, ho1, hb1⟩
  have B1 := Lib.hid (btrans hb0 hb1)
  have HO1 := Lib.hid ho1; clear ho1 hb0 hb1
  go_wp2_with fail
  refine (HBk.out ao1 cap1 _ (RdI.of_own HO1.out) (HS.out.below B1.out).errs).mono ?_
  rintro e w2 ⟨v, rfl, hv, hb2⟩
  have B2 := Lib.hid (btrans B1.out hb2)
  have HV := Lib.hid (hv.since (w0 := w) B1.out.size)
  clear hb2 hv
  go_wp2_with fail
  refine (HBr.out _ (HR.out.below B2.out)).mono ?_
  rintro e w3 ⟨rfl, hb3⟩
  have B3 := Lib.hid (btrans B2.out hb3)
  have HV3 := Lib.hid (HV.out.later (w2 := w3) fun b o _ hb => hb3.cell (p := ⟨b, o, none⟩) hb)
  clear hb3
  have hkv : (kv == kv) = true := beq_self_eq_true _
  have B4 := Lib.hid (B3.out.alloc B3.out.size (.cells #[.int .i64 (bakerF zs c l r).1, .int .i64 (bakerF zs c l r).2] 72))
  have HV4 := Lib.hid (HV3.out.later (w2 := w3.alloc (.cells #[.int .i64 (bakerF zs c l r).1, .int .i64 (bakerF zs c l r).2] 72)) fun b o _ hb => by simp [go_sem, hb])
  go_wp2_with fail
  refine (law2_faulted A v (bakerF zs c l r) w _ (HS.out.below B4.out) HV4.out (HLE.out r).1 (HLE.out r).2).mono ?_
  rintro e w5 ⟨rfl, hb5⟩
  have B5 := Lib.hid (btrans B4.out hb5)
  have g0 : w3.heap.size < w5.heap.size := by have := hb5.size; simp at this; omega
  have HG := Lib.hid ((RowAt.new w3 72 [.int .i64 (bakerF zs c l r).1, .int .i64 (bakerF zs c l r).2]).below hb5 (by simp))
  have nw3 : w.heap.size ≤ w3.heap.size := B3.out.size
  generalize w3.heap.size = g at *
  clear hb5 HV HV3 HV4 B4 B3
  go_wp2_with fail
  refine (HOwn.out _ (HR.out.below B5.out)).mono ?_
  rintro e w6 ⟨ao6, cap6, rfl, ho6, hb6⟩
  have B6 := Lib.hid (btrans B5.out hb6)
  have HO6 := Lib.hid ho6
  have HG6 := Lib.hid (HG.out.below hb6 g0); clear ho6 hb6 HG
  go_wp2_with fail
  refine (HRo.out ao6 cap6 _ (RdI.of_own HO6.out) (HS.out.below B6.out).errs).mono ?_
  rintro e w7 ⟨hb7, h7⟩
  have B7 := Lib.hid (btrans B6.out hb7)
  have HG7 := Lib.hid (HG6.out.below hb7 HG6.out.lt)
  have HBO8 := Lib.hid (HB0.out _ (HR.out.below B7.out))
  rcases h7 with ⟨hf, v7, rfl, hv7⟩ | ⟨hf, ao8, cap8, rfl, hown⟩
  · have HV7 := Lib.hid hv7
    have lg6 := HG6.out.lt
    have Hf := Lib.hid hf
    clear hv7 hf hb7
    go_wp2_with fail
    refine HBO8.out.mono ?_
    rintro e w8 ⟨rfl, hb8⟩
    have B8 := Lib.hid (btrans B7.out hb8)
    have HG8 := Lib.hid (HG7.out.below hb8 HG7.out.lt)
    have HV8 := Lib.hid (HV7.out.later (w2 := w8) fun b o _ hb => hb8.cell (p := ⟨b, o, none⟩) hb)
    clear hb8
    have c0 := HG8.out.cell 0; have c1 := HG8.out.cell 1; have f0 := HG8.out.frozen 0; have f1 := HG8.out.frozen 1
    simp at c0 c1
    have hgl := HG8.out.lt
    have e2 : decide (0 < (bakerF zs c l 0).1) = true := by have := Hf.out; simp; omega
    have e3 : decide ((0 : Int) < ((bakerF zs c l 0).1 : Int)) = true := by have := Hf.out; simp; omega
    have B9 := Lib.hid ((B8.out.setCell (p := ⟨g, 0, none⟩) nw3 (.int .i64 (bakerF zs c l 0).1)).setCell (p := ⟨g, 1, none⟩) nw3 (.int .i64 (bakerF zs c l 0).2))
    have HV9 := Lib.hid (HV8.out.later (w2 := (w8.setCell ⟨g, 0, none⟩ (.int .i64 (bakerF zs c l 0).1)).setCell ⟨g, 1, none⟩ (.int .i64 (bakerF zs c l 0).2)) fun b o hb1 hb2 => by
      rw [set_other (by omega), set_other (by omega)])
    go_wp2_with fail
    refine (law2_faulted A v7 (bakerF zs c l 0) w6 _ (HS.out.below B9.out) HV9.out (HLE.out 0).1 (HLE.out 0).2).mono ?_
    rintro e w9 ⟨rfl, hb9⟩
    have B10 := Lib.hid (btrans B9.out hb9)
    go_wp2_with fail
    go_ret
    exact ⟨rfl, B10.out⟩
  · have Hf := Lib.hid hf
    have HK := Lib.hid (HBo.out hf)
    have HWV := Lib.hid (HW.out (HZ.out hf))
    obtain ⟨g8, hg8⟩ := own_cells hown
    obtain ⟨ha8, nb8, lt8, _, hc8⟩ := hg8 (by omega)
    subst ha8
    have HBR := Lib.hid (show BR w g8 0 (fun j => bakerV zs s c l (j : Int)) w7 from ⟨B7.out, lt8, fun j hj => by
      rw [Nat.zero_add, hc8 j hj]
      simp [roundsV, List.getElem?_map, List.getElem?_range hj]⟩)
    have hc0 := Lib.hid hf
    have HN := Lib.hid (bakerF_zero hf).1
    clear hg8 hc8 hf hown
    go_wp2_with fail
    refine HBO8.out.mono ?_
    rintro e w8 ⟨rfl, hb8⟩
    rw [hc0.out, HN.out]
    have HG8 := Lib.hid (HG7.out.below hb8 HG7.out.lt)
    have HB8 := Lib.hid (HBR.out.next hb8)
    clear hb8
    have c0 := HG8.out.cell 0; have c1 := HG8.out.cell 1; have f0 := HG8.out.frozen 0; have f1 := HG8.out.frozen 1
    simp at c0 c1
    have hgl := HG8.out.lt
    have B9 := Lib.hid ((HB8.out.below.setCell (p := ⟨g, 0, none⟩) nw3 (.int .i64 0)).setCell (p := ⟨g, 1, none⟩) nw3 (.int .i64 (-1)))
    have HB9 := Lib.hid (show BR w g8 0 (fun j => bakerV zs s c l (j : Int)) ((w8.setCell ⟨g, 0, none⟩ (.int .i64 0)).setCell ⟨g, 1, none⟩ (.int .i64 (-1))) from ⟨B9.out, by simpa [World.setCell] using HB8.out.lt, fun j hj => by
      have := HG6.out.lt
      rw [set_other (by omega), set_other (by omega)]; exact HB8.out.cell j hj⟩)
    go_wp2_with fail
    go_loopw [17] (fun i wr => ∃ k : Nat, k ≤ 8 ∧ i = .int .i64 k ∧ BR w g8 0 (fun j => bakerV zs s c l (j : Int)) wr) (fun i _ => 8 - (intOf i).toNat)
    case atStart => exact ⟨0, by omega, rfl, HB9.out⟩
    case round =>
      obtain ⟨k, hk, rfl, hM⟩ := hrel
      have M := Lib.hid hM; clear hM c0 c1 f0 f1
      by_cases hlt : k < 8
      · obtain ⟨x, hx, hxl, hxp⟩ := HWV.out (k : Int)
        have HC := Lib.hid (HK.out k hlt _ (HR.out.below M.out.below))
        have q1 := M.out.cell k hlt
        simp only [Nat.zero_add, hx] at q1
        rw [hx] at HC
        obtain ⟨b, off, ha, hcx⟩ := (HR.out.below M.out.below).cells x hxl
        have hy : (zs.getD x 0 == 0) = false := by rw [beq_eq_false_iff_ne]; omega
        have hxx : ((x : Int) == (x : Int)) = true := beq_self_eq_true _
        subst ha
        generalize zs.getD x 0 = y at *
        have Hx := Lib.hid hx
        clear hx hxp
        go_wp2_with fail
        refine HC.out.mono ?_
        rintro e w10 ⟨rfl, hb10⟩
        have M2 := Lib.hid ((M.out.next hb10).next ((Below.refl _ w10).alloc (Nat.le_refl _) (.cells #[.int .i64 0, .int .i64 (-1)] 72)))
        have M10 := M.out.next hb10
        have q2 : w10.cell? ⟨g8, k, none⟩ = some (.int .i64 (x : Int)) := by have := M10.cell k hlt; rw [Nat.zero_add] at this; rw [this, ← Hx.out]
        have hg8 := M10.lt
        have q3 : w10.cell? ⟨b, off + x, none⟩ = some (.int .i64 y) := by
          rw [hb10.cell (p := ⟨b, off + x, none⟩) (World.block_lt_of_cell? _ _ hcx)]; exact hcx
        have hbl := World.block_lt_of_cell? _ _ q3
        clear M10
        clear hb10
        go_wp2_with fail
        go_roundw
        case rel => exact ⟨k + 1, by omega, by go_num, M2.out⟩
        case measure => simp [intOf]; omega
      · obtain rfl : k = 8 := by omega
        go_wp2_with fail
        go_ret
        exact ⟨rfl, M.out.below⟩

theorem bakers_all (A : Nat → Addr) (ao : Option Addr) (len cap : Nat) (zs : List Int) (s : Nat) (hs : s < 18446744073709551616) (c l r : Int) (w : World) (hS : Sents A w) (R : RdI .i64 w ao len cap zs) :
    Calls Tryd.prog 9 #[.slice ao len cap, .int .u64 s, .int .i64 c, .int .i64 l, .int .i64 r] w fun e w' => e = .returned (.bool true) ∧ Below w.heap.size w w' := by
  by_cases hl : len ≤ 100
  · have := R.size
    subst this
    exact bakers_walk A ao cap zs s hs c l r w hS R hl
  · have HS := Lib.hid hS; clear hS R hs
    have m2 : (2 : Nat) ∈ [1, 2, 3, 4, 5, 6, 7, 8, 9, 10] := by decide
    have m3 : (3 : Nat) ∈ [1, 2, 3, 4, 5, 6, 7, 8, 9, 10] := by decide
    have m4 : (4 : Nat) ∈ [1, 2, 3, 4, 5, 6, 7, 8, 9, 10] := by decide
    have d1 : decide ((100 : Int) < (len : Int)) = true := by simp; omega
    clear hl
    go_enter Tryd.func9, Tryd.ntmps9
    go_wp2_with fail
    refine (law_entitled A _ _ HS.out.errs m2 m3 m4).mono ?_
    rintro e w0 ⟨rfl, hb0⟩
    go_wp2_with fail
    go_ret
    exact ⟨rfl, hb0⟩
end Go.Proofs.YtajnfkmkombajabDoor
