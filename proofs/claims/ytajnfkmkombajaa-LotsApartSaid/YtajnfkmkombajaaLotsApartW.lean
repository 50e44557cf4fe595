/- The walk of LotsApart. -/
import Derived.Test.YtajnfkmkombajaaLots
import Derived.Deep.RegionHeld3
import Derived.Deep.RegionWith
namespace Go.Proofs.Ytajnfkmkombajaa
open Go.RowKit

theorem law_lotted (w : World) :
    Calls Try.prog 4 #[] w fun e w' => e = .returned (.bool true) ∧ Below w.heap.size w w' := by
  have h := lot_first
  have H := Lib.hid h; clear h
  go_enter Try.func4, Try.ntmps4
  go_wp2_with (first | (go_at_call 5; refine (lots_New _ _).mono ?_; rintro e w' ⟨rfl, rfl⟩) | (go_at_call 6; refine (lots_Next_new _ _).mono ?_; rintro e w' ⟨rfl, rfl⟩; rw [H.out]))
  go_ret
  exact ⟨rfl, (Below.refl _ _).alloc (Nat.le_refl _) _⟩

theorem Try.elemInts : Try.prog.underlying 23 = some (.slice (Try.prog.elem 23)) := by kernel_rfl
theorem Try.sizeInts (wx : World) : (sizeOf (Try.prog.elem 23)).run Try.prog wx = .ok 1 wx := by kernel_rfl
theorem Try.infoU64 : (Try.prog.info? 22).map (fun i => (i.zero, i.size, i.bytes)) = some (some (.int .u64 0), 1, 8) := by kernel_rfl

/-- what one round of the outer loop does to its relation -/
theorem apart_step {B k e : Nat} {wr w2 : World} {v : Value} {xs : List Value} {x y : Value} {o : Obj} (hown : wr.ownsRow (B + 1) e 1 v k xs) (hcl : wr.cell? ⟨B, 0, none⟩ = some y) (hfr : wr.frozen? ⟨B, 0, none⟩ = false) (hB : B < wr.heap.size)
    (hg : ((wr.setCell ⟨B, 0, none⟩ x).alloc o).grownBy w2 v.ownBlock) : w2.cell? ⟨B, 0, none⟩ = some x ∧ w2.frozen? ⟨B, 0, none⟩ = false ∧ B < w2.heap.size ∧ ∀ W : World, Below W.heap.size W wr → W.heap.size ≤ B → Below W.heap.size W w2 := by
  have hne := own_block hown (k := B) (by omega)
  have hs : B < ((wr.setCell ⟨B, 0, none⟩ x).alloc o).heap.size := by simp; omega
  refine ⟨?_, ?_, Nat.lt_of_lt_of_le hs hg.size, fun W hW hWB => ?_⟩
  · rw [hg.cell_far _ hs hne, World.cell?_alloc_lt _ _ _ (by simpa using hB)]
    exact World.cell?_setCell_same _ _ _ hcl
  · rw [hg.frozen_far _ hs hne, World.frozen?_alloc_old _ _ _ (by simp; omega), World.frozen?_setCell]
    exact hfr
  · refine Below.grown ((hW.setCell (p := ⟨B, 0, none⟩) hWB x).alloc (by simpa using hW.size) o) hg (by have := hW.size; simp; omega) fun j hj => ?_
    rcases hown.2 with ⟨hv, _⟩ | ⟨g, cap, cur, hv, hgB, _⟩
    · rw [hv] at hj; cases hj
    · rw [hv] at hj; simp [Value.ownBlock] at hj; omega

set_option maxHeartbeats 1000000 in
theorem apart_walk (s : Nat) (hs : s < 18446744073709551616) (n : Nat) (a2 : Option Addr) (len2 cap2 : Nat) (z2 : List Int) (cut : Nat) (w : World) (R : RdI .i64 w a2 len2 cap2 z2)
    (h2 : n ≤ 200) (h3 : len2 ≤ 60) (h5 : cut ≤ len2) :
    Calls Try.prog 3 #[.int .u64 s, .int .i64 n, .slice a2 len2 cap2, .int .i64 cut] w fun e w' => e = .returned (.bool true) ∧ Below w.heap.size w w' := by
  obtain ⟨i0, hi, hz0, hz1, hz2⟩ := info_parts Try.infoU64
  have d1 : decide ((n : Int) < 0) = false := by simp
  have d2 : decide ((200 : Int) < (n : Int)) = false := by simp; omega
  have d3 : decide ((60 : Int) < (len2 : Int)) = false := by simp; omega
  have d4 : decide ((cut : Int) < 0) = false := by simp
  have d5 : decide ((len2 : Int) < (cut : Int)) = false := by simp; omega
  have HR := Lib.hid R; clear R
  go_enter Try.func3, Try.ntmps3
  go_wp2_with (first | (go_at_call 4; refine (law_lotted _).mono ?_; rintro e w1 ⟨rfl, hb1⟩) | (go_at_call 5; refine (lots_New _ _).mono ?_; rintro e w' ⟨rfl, rfl⟩))
  go_loopw [11, 12] (fun all i wr => ∃ k : Nat, k ≤ n ∧ i = .int .i64 k ∧ wr.ownsRow (w1.heap.size + 1) 22 1 all k ((lotZs s k).map (Value.int .u64)) ∧ wr.cell? ⟨w1.heap.size, 0, none⟩ = some (.int .u64 (lotSt s k)) ∧ wr.frozen? ⟨w1.heap.size, 0, none⟩ = false ∧ w1.heap.size < wr.heap.size ∧ Below w.heap.size w wr)
    (fun _ i _ => n - (intOf i).toNat)
  case atStart => exact ⟨0, Nat.zero_le _, rfl, World.ownsRow_nil _ _ _ _, by simp [lotSt_zero hs], by simp, by simp, hb1.alloc hb1.size _⟩
  case round =>
    obtain ⟨k, hk, rfl, hown, hcl, hfr, hsz, hbel⟩ := hrel
    by_cases hlt : k < n
    · have hsu := lotSt_succ s k
      have hll := lotZs_length s k
      have hz := hb1.size
      obtain ⟨ao, cap, hv⟩ := own_shape hown
      subst hv
      obtain ⟨g, hcs⟩ := own_cells hown
      have Hcs := Lib.hid hcs; clear hcs
      have Hown := Lib.hid hown; clear hown
      have Hsu := Lib.hid hsu; clear hsu
      have Hll := Lib.hid hll; clear hll
      go_wp2_with (first | (go_at_call 6; refine (lots_Next _ _ _ hcl hfr).mono ?_; rintro e w' ⟨rfl, rfl⟩))
      go_loop [14] (fun j => ∃ q : Nat, q ≤ k ∧ j = .int .i64 q) (fun j => k - (intOf j).toNat)
      case atStart => exact ⟨0, Nat.zero_le _, rfl⟩
      case round =>
        obtain ⟨q, hq, rfl⟩ := hrel
        by_cases hqm : q < k
        · obtain ⟨rfl, hbg, hgs, _, hcg⟩ := Hcs.out (by omega)
          have hcq := hcg q hqm
          have hne := lotZs_ne (s := s) (j := q) (k := k) hqm (by omega)
          rw [← Hsu.out] at hne
          obtain ⟨zq, hzq⟩ : ∃ zq, (lotZs s k)[q]? = some zq := ⟨_, List.getElem?_eq_getElem (by rw [Hll.out]; exact hqm)⟩
          rw [List.getD_eq_getElem?_getD, hzq] at hne
          rw [List.getElem?_map, hzq] at hcq
          simp only [Option.map_some, Option.getD_some] at hcq hne
          clear hzq
          clear hcg
          have hcq2 : (wr.setCell ⟨w1.heap.size, 0, none⟩ (.int .u64 (lotAdv (lotSt s k)))).cell? ⟨g, q, none⟩ = some (.int .u64 zq) := by rw [set_other (by omega)]; exact hcq
          go_wp2
          go_round
          case rel => exact ⟨q + 1, by omega, by go_num⟩
          case measure => simp [intOf]; omega
        · go_wp2_with (at_builtin; go_loud (refine wpList_append_own _ rfl (.tmp 65) (.tmp 67) 27 rfl (w1.heap.size + 1) 22 i0 (.int .u64 0) 1 8 Try.underlying27 hi hz0 hz1 hz2 rfl (by decide) _ _ _ rfl ((ownsRow_setCell_below Hown.out (by simp) _).alloc _) ⟨wr.heap.size, 0, none⟩ 1 1 [.int .u64 (lotOut (lotAdv (lotSt s k)))] rfl rfl (cell_one_at _ _ _ _ (by simp)) (ints_oneCell _ [_]) (by unfold maxLen; omega) (by omega) (by simp; omega) ?_); intro v' w2 hown2 hg2 _)
          have hmap : (lotZs s k).map (Value.int .u64) ++ [Value.int .u64 (lotOut (lotAdv (lotSt s k)))] = (lotZs s (k + 1)).map (Value.int .u64) := by rw [lotZs_succ, ← Hsu.out]; simp
          rw [hmap] at hown2
          obtain ⟨r1, r2, r3, r4⟩ := apart_step Hown.out hcl hfr hsz hg2
          rw [Hsu.out] at r1
          clear hmap hg2
          go_roundw
          case rel => exact ⟨k + 1, by omega, by go_num, hown2, r1, r2, r3, r4 w hbel (by omega)⟩
          case measure => simp [intOf]; omega
    · clear hown hcl hfr
      obtain ⟨hs1, R1⟩ := HR.out.hi Try.elemInts Try.sizeInts cut h5 .i64
      obtain ⟨a3, hs2, R2⟩ := HR.out.lo Try.elemInts Try.sizeInts cut h5 .i64
      have RA := Lib.hid (HR.out.below hbel)
      have R1 := Lib.hid (R1.below hbel)
      have R2 := Lib.hid (R2.below hbel)
      have hmx : mixL (mixL s (z2.take cut)) (z2.drop cut) = mixL s z2 := by rw [mixL_append, List.take_append_drop]
      have Hmx := Lib.hid hmx; clear hmx
      clear hsz
      go_wp2_with fail
      go_region_held3 (fun w' => Below wr.heap.size wr w') (first | assumption | exact (Below.refl _ _).drew)
        (first
          | (go_at_call_of 8 (Value.slice a2 cut cap2); refine (law_OwnInts _ _ _ _ _ (R1.out.below (by assumption)) (by omega)).mono ?_; rintro e wa ⟨ao1, cp1, rfl, ho1, hb1⟩; have hS1 := btrans (a := wr) (by assumption) hb1)
          | (go_at_call_of 8 (Value.slice a3 (len2 - cut) (cap2 - cut)); refine (law_OwnInts _ _ _ _ _ (R2.out.below (by assumption)) (by omega)).mono ?_; rintro e wb ⟨ao2, cp2, rfl, ho2, hb2⟩; have hS2 := btrans (a := wr) (by assumption) hb2)
          | (go_at_call_of 8 (Value.slice a2 len2 cap2); refine (law_OwnInts _ _ _ _ _ (RA.out.below (by assumption)) (by omega)).mono ?_; rintro e wc ⟨ao3, cp3, rfl, ho3, hb3⟩; have hS3 := btrans (a := wr) (by assumption) hb3)
          | (go_at_call 7; refine (lots_Mix _ _ _ _ _ _ (RdI.of_own (by assumption))).mono ?_; rintro e wm ⟨rfl, hbm⟩; have hSm := btrans (a := wr) (by assumption) hbm))
      go_wp2
      go_ret
      refine ⟨?_, btrans hbel (by assumption)⟩
      simp [Hmx.out]

theorem apart_all (s : Nat) (hs : s < 18446744073709551616) (n : Int) (a2 : Option Addr) (len2 cap2 : Nat) (z2 : List Int) (cut : Int) (w : World) (R : RdI .i64 w a2 len2 cap2 z2) :
    Calls Try.prog 3 #[.int .u64 s, .int .i64 n, .slice a2 len2 cap2, .int .i64 cut] w fun e w' => e = .returned (.bool true) ∧ Below w.heap.size w w' := by
  by_cases h : 0 ≤ n ∧ n ≤ 200 ∧ len2 ≤ 60 ∧ 0 ≤ cut ∧ cut ≤ len2
  · obtain ⟨h1, h2, h3, h4, h5⟩ := h
    obtain ⟨n', rfl⟩ := Int.eq_ofNat_of_zero_le h1
    obtain ⟨c', rfl⟩ := Int.eq_ofNat_of_zero_le h4
    exact apart_walk s hs n' a2 len2 cap2 z2 c' w R (by omega) h3 (by omega)
  · clear R
    go_enter Try.func3, Try.ntmps3
    go_wp2_with (go_at_call 4; refine (law_lotted _).mono ?_; rintro e w1 ⟨rfl, hb1⟩)
    all_goals (go_ret; exact ⟨rfl, hb1⟩)
end Go.Proofs.Ytajnfkmkombajaa
