/- Contracts of package right: Rounds. -/
import Derived.Test.YtajnfkmkombajaaDoorRight
set_option linter.unusedVariables false
set_option linter.unusedSimpArgs false
namespace Go.Proofs.YtajnfkmkombajaaDoor
open Go.RowKit

/-- the bakers of a level's rounds -/
noncomputable def roundsV (zs : List Int) (s c l : Int) (k : Nat) : List Int := (List.range k).map fun r : Nat => bakerV zs s c l (r : Int)
theorem roundsV_succ (zs : List Int) (s c l : Int) (k : Nat) : roundsV zs s c l (k + 1) = roundsV zs s c l k ++ [bakerV zs s c l (k : Int)] := by simp [roundsV, List.range_succ]
theorem roundsV_length (zs : List Int) (s c l : Int) (k : Nat) : (roundsV zs s c l k).length = k := by simp [roundsV]
theorem bakerF_round (zs : List Int) (c l : Int) (k : Nat) (hk : k < 8) : bakerF zs c l (k : Int) = bakerF zs c l 0 := by
  have e : roundOk c l (k : Int) ↔ roundOk c l 0 := by unfold roundOk; omega
  unfold bakerF
  by_cases h : roundOk c l (k : Int)
  · rw [if_pos h, if_pos (e.1 h)]
  · rw [if_neg h, if_neg (fun x => h (e.2 x))]

def RoundsPost (A : Nat → Addr) (zs : List Int) (s c l : Int) (w : World) (e : Ending) (w' : World) : Prop :=
  Below w.heap.size w w' ∧ (((bakerF zs c l 0).1 ≠ 0 ∧ ∃ v, e = .returned (.tuple #[.slice none 0 0, v]) ∧ ErrIs A w w' v (bakerF zs c l 0)) ∨
    ((bakerF zs c l 0).1 = 0 ∧ ∃ ao cap, e = .returned (.tuple #[.slice ao 8 cap, .nilIface]) ∧ w'.ownsRow w.heap.size 3 1 (.slice ao 8 cap) 8 ((roundsV zs s c l 8).map (Value.int .i64))))

theorem bakerF_zero {zs : List Int} {c l r : Int} (h : (bakerF zs c l r).1 = 0) : (bakerF zs c l r).2 = -1 ∧ (weightsF zs).1 = 0 := by
  unfold bakerF at h ⊢
  split
  · next hr => rw [if_pos hr] at h; obtain ⟨hw, _⟩ := weights_ok h; rw [hw]; simp
  · next hr => rw [if_neg hr] at h; simp at h

set_option maxRecDepth 8000 in
set_option maxHeartbeats 1000000 in
theorem right_Rounds (A : Nat → Addr) (S : List Nat) (ao : Option Addr) (cap : Nat) (zs : List Int) (s : Nat) (hs : s < 18446744073709551616) (c l : Int) (w : World) (R : RdI .i64 w ao zs.length cap zs) (hE : Errs A S w) (h2 : 2 ∈ S) (h3 : 3 ∈ S) (h4 : 4 ∈ S) :
    Calls Tryd.prog 36 #[.slice ao zs.length cap, .int .u64 s, .int .i64 c, .int .i64 l] w (RoundsPost A zs s c l w) := by
  obtain ⟨i0, hi, hz0, hz1, hz2⟩ := info_parts (show (Tryd.prog.info? 3).map (fun i => (i.zero, i.size, i.bytes)) = some (some (.int .i64 0), 1, 8) by kernel_rfl)
  have HB := Lib.hid (fun r wx (hx : Below w.heap.size w wx) => right_Baker A S ao cap zs s hs c l r wx (R.below hx) (hE.below hx) h2 h3 h4)
  have HRd := Lib.hid (fun k hk => bakerF_round zs c l k hk)
  clear R hE hs
  generalize hn : zs.length = n at *
  clear hn
  go_enter Tryd.func36, Tryd.ntmps36
  go_wp2_with fail
  go_loopg [14, 10] 8 (fun g i out wr => ∃ k : Nat, g + k = 8 ∧ i = .int .i64 k ∧ wr.ownsRow w.heap.size 3 1 out k ((roundsV zs s c l k).map (Value.int .i64)) ∧ Below w.heap.size w wr ∧ (k = 0 ∨ (bakerF zs c l 0).1 = 0))
  case atStart => exact ⟨0, rfl, rfl, World.ownsRow_nil _ _ _ _, Below.refl _ _, .inl rfl⟩
  case round =>
    obtain ⟨k, hg, rfl, hown, hb, hok⟩ := hrel
    have hG := Lib.hid hg; clear hg
    have HOwn := Lib.hid hown; have HBl := Lib.hid hb; have HOk := Lib.hid hok
    clear hown hb hok
    by_cases hlt : k < 8
    · go_wp2_with fail
      refine (HB.out (k : Int) _ HBl.out).mono ?_
      rintro e w1 ⟨v, rfl, hv, hb1⟩
      have hrd := HRd.out k hlt
      rw [hrd] at hv ⊢
      have b1 := btrans HBl.out hb1
      by_cases hf : (bakerF zs c l 0).1 = 0
      · have hv0 := hv.yes hf (bakerF_zero hf).1
        subst hv0
        rw [if_pos hf]
        have own1 : w1.ownsRow w.heap.size 3 1 u10 k ((roundsV zs s c l k).map (Value.int .i64)) := by
          refine HOwn.out.kept (row := none) ⟨hb1.os, hb1.tape, hb1.output, hb1.size, fun i hi' _ => hb1.block i hi'⟩ ?_
          cases hx : Value.ownBlock u10 <;> simp
        have HO1 := Lib.hid own1; have HB1 := Lib.hid b1; have Hf := Lib.hid hf
        have hsz := b1.size
        have hsucc := roundsV_succ zs s c l k
        have HSu := Lib.hid hsucc
        generalize bakerV zs s c l (k : Int) = bv at *
        clear hv hb1 b1 own1 hf hrd hsucc
        go_wp2_with (at_builtin; refine wpList_append_own _ rfl (.tmp 29) (.tmp 31) 23 rfl w.heap.size 3 i0 (.int .i64 0) 1 8 Tryd.underlying23 hi hz0 hz1 hz2 rfl (by decide) u10 k ((roundsV zs s c l k).map (Value.int .i64)) rfl (HO1.out.alloc _) ⟨_, 0, none⟩ 1 1 [.int .i64 bv] rfl rfl (cell_one_at _ _ _ _ (by simp)) (ints_oneCell _ [_]) (by unfold maxLen; omega) (by omega) (by simp; omega) ?_)
        intro v' w2 ho2 hg2 _
        have b2 : Below w.heap.size w w2 := Below.grown (HB1.out.alloc HB1.out.size _) hg2 (by simp; omega) (fun j hj => (HO1.out.lt j hj).1)
        have HO2 := Lib.hid (show w2.ownsRow w.heap.size 3 1 v' (k + 1) ((roundsV zs s c l (k + 1)).map (Value.int .i64)) by rw [HSu.out, List.map_append]; exact ho2)
        have HB2 := Lib.hid b2
        clear ho2 hg2 b2
        go_wp2_with fail
        have hg := hG.out
        go_roundg (8 - (k + 1))
        case measure => omega
        case rel => exact ⟨k + 1, by omega, by go_num, HO2.out, HB2.out, .inr Hf.out⟩
      · obtain ⟨t, x, rfl⟩ := hv.no hf
        rw [if_neg hf]
        have hk0 : k = 0 := HOk.out.resolve_right hf
        subst hk0
        have hfin : RoundsPost A zs s c l w (.returned (.tuple #[.slice none 0 0, .iface t (.pointer (some x))])) w1 := ⟨b1, .inl ⟨hf, _, rfl, hv.since HBl.out.size⟩⟩
        have HFN := Lib.hid hfin
        clear hfin hf hv b1 hb1 hrd
        go_wp2_with fail
        go_ret2
        exact HFN.out
    · have hk8 : k = 8 := by have := hG.out; omega
      subst hk8
      have hf := HOk.out.resolve_left (by decide)
      obtain ⟨ao', cap', hv'⟩ := own_shape HOwn.out
      have ho := HOwn.out
      rw [hv'] at ho
      have hfin : RoundsPost A zs s c l w (.returned (.tuple #[u10, .nilIface])) wr := ⟨HBl.out, .inr ⟨hf, ao', cap', by rw [hv'], ho⟩⟩
      have HFN := Lib.hid hfin
      clear hfin hf ho hv'
      go_wp2_with fail
      go_ret2
      exact HFN.out
end Go.Proofs.YtajnfkmkombajaaDoor
