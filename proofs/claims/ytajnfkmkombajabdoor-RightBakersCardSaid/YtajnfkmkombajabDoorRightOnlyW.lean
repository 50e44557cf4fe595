/- The walk of RightOnly. -/
import Derived.Test.YtajnfkmkombajabDoorRounds
import Derived.Test.YtajnfkmkombajabDoorSame
import Derived.Test.YtajnfkmkombajabDoorPlPurse
set_option linter.unusedVariables false
set_option linter.unusedSimpArgs false
namespace Go.Proofs.YtajnfkmkombajabDoor
open Go.RowKit

theorem picture_nil (w : World) : Calls Tryd.prog 127 #[.pointer none] w fun e w' => e = .returned (.slice (some ⟨w.heap.size, 0, none⟩) 3 3) ∧ w.alloc (.cells #[.int .i64 0, .int .i64 0, .int .i64 0] 3) = w' := by
  have hmk : ∀ w, (Instr.makeSlice 51 (.int .i64 3) (.int .i64 3)).run Tryd.prog w = .ok (.slice (some ⟨w.heap.size, 0, none⟩) 3 3) (w.alloc (.cells #[.int .i64 0, .int .i64 0, .int .i64 0] 3)) := fun _ => by kernel_rfl
  go_enter Tryd.func127, Tryd.ntmps127
  go_wp2
  go_ret
  exact ⟨rfl, rfl⟩

theorem entitled_one (s c l r : Int) : bakerF [0, 5, 0] 1 2 3 = (0, -1) ∧ bakerV [0, 5, 0] s c l r = 1 := by
  have hw : weightsF [0, 5, 0] = (0, -1) := by rfl
  refine ⟨by unfold bakerF; rw [if_pos (by unfold roundOk; omega), hw], ?_⟩
  obtain ⟨k, hk, hl, hp⟩ := bakerV_weight (zs := [0, 5, 0]) (by rw [hw]) s c l r
  match k, hl with
  | 0, _ => simp at hp
  | 1, _ => exact hk
  | 2, _ => simp at hp

set_option maxRecDepth 8000 in
theorem law_entitled (A : Nat → Addr) (S : List Nat) (w : World) (hE : Errs A S w) (h2 : 2 ∈ S) (h3 : 3 ∈ S) (h4 : 4 ∈ S) :
    Calls Tryd.prog 63 #[] w fun e w' => e = .returned (.bool true) ∧ Below w.heap.size w w' := by
  have HE := Lib.hid hE; clear hE
  obtain ⟨f1, f2⟩ := entitled_one ((7 : Nat) : Int) 1 2 3
  have F1 := Lib.hid f1; have F2 := Lib.hid f2
  clear f1 f2
  have R := RdI.of_rowAt (k := .i64) (zs := [0, 5, 0]) (RowAt.new w 3 [.int .i64 0, .int .i64 5, .int .i64 0]) (by unfold maxLen; simp)
  have b0 := (Below.refl w.heap.size w).alloc (Nat.le_refl _) (.cells #[.int .i64 0, .int .i64 5, .int .i64 0] 3)
  have HB := Lib.hid (right_Baker A S _ _ [0, 5, 0] 7 (by decide) 1 2 3 _ R (HE.out.below b0) h2 h3 h4)
  have Hb0 := Lib.hid b0
  clear R b0
  go_enter Tryd.func63, Tryd.ntmps63
  go_wp2_with fail
  refine HB.out.mono ?_
  rintro e w1 ⟨v, rfl, hv, hb1⟩
  rw [F1.out] at hv ⊢
  have hv0 := hv.yes rfl rfl
  subst hv0
  rw [if_pos rfl, F2.out]
  have b1 := Lib.hid (btrans Hb0.out hb1)
  clear hv hb1
  go_wp2_with fail
  refine (picture_nil _).mono ?_
  rintro e w' ⟨rfl, rfl⟩
  have RX := RdI.of_rowAt (k := .i64) (zs := [0, 0, 0]) ((RowAt.new w1 3 [.int .i64 0, .int .i64 0, .int .i64 0]).alloc (.cells #[.int .i64 0, .int .i64 0, .int .i64 0] 3)) (by unfold maxLen; simp)
  have RY := RdI.of_rowAt (k := .i64) (zs := [0, 0, 0]) (RowAt.new (w1.alloc (.cells #[.int .i64 0, .int .i64 0, .int .i64 0] 3)) 3 [.int .i64 0, .int .i64 0, .int .i64 0]) (by unfold maxLen; simp)
  simp only [World.size_alloc] at RY
  have HX := Lib.hid RX; have HY := Lib.hid RY
  clear RX RY
  go_wp2_with fail
  refine (ref_SameInts _ _ 3 3 3 [0, 0, 0] _ HX.out HY.out).mono ?_
  rintro e w' ⟨rfl, d, rfl⟩
  go_wp2_with fail
  go_ret
  exact ⟨rfl, ((b1.out.alloc b1.out.size _).alloc (by have := b1.out.size; simp; omega) _).drewN _⟩

theorem only_plain (n k : Nat) (x : Int) (hk : k < n) (hn : n ≤ 64) (h1 : 1 ≤ x) (h2 : x ≤ 1073741824) : (weightsF ((List.replicate n (0 : Int)).set k x)).1 = 0 ∧ ∀ j, 0 < ((List.replicate n (0 : Int)).set k x).getD j 0 → j = k := by
  have hlen : ((List.replicate n (0 : Int)).set k x).length = n := by simp
  have hall : ∀ y ∈ (List.replicate n (0 : Int)).set k x, 0 ≤ y ∧ y ≤ 1073741824 := by
    intro y hy
    rcases List.mem_or_eq_of_mem_set hy with h | h
    · have := (List.mem_replicate.1 h).2; omega
    · omega
  have hbad : firstBad ((List.replicate n (0 : Int)).set k x) = -1 := by
    apply findIdx_none
    intro j hj
    have := hall _ (show ((List.replicate n (0 : Int)).set k x).getD j 0 ∈ _ by rw [List.getD_eq_getElem?_getD, List.getElem?_eq_getElem hj]; exact List.getElem_mem _)
    simp only [badW, Bool.or_eq_false_iff, decide_eq_false_iff_not]; omega
  have hsum : ((List.replicate n (0 : Int)).set k x).sum = x := by
    have h := sum_set (List.replicate n 0) k x (by simp; exact hk)
    have h0 : (List.replicate n (0 : Int)).sum = 0 := by
      clear h hbad hall hlen hn hk
      induction n with
      | zero => rfl
      | succ n ih => rw [List.replicate_succ, List.sum_cons, ih]; rfl
    rw [h, h0]; simp [hk]
  refine ⟨?_, fun j hj => ?_⟩
  · unfold weightsF
    rw [hlen, if_neg (by omega), hbad, if_neg (by omega), hsum, if_neg (by omega)]
  · apply Decidable.byContradiction
    intro hne
    rw [getD_set_other _ _ _ _ _ (Ne.symm hne)] at hj
    rw [List.getD_eq_getElem?_getD, List.getElem?_replicate] at hj
    split at hj <;> simp at hj
theorem none_plain (n : Nat) (h0 : 1 ≤ n) (hn : n ≤ 64) : weightsF (List.replicate n (0 : Int)) = (4, -1) := by
  have hbad : firstBad (List.replicate n (0 : Int)) = -1 := by
    apply findIdx_none
    intro j hj
    simp only [List.length_replicate] at hj
    simp [badW, hj]
  have h0' : (List.replicate n (0 : Int)).sum = 0 := by
    clear hbad h0 hn
    induction n with
    | zero => rfl
    | succ n ih => rw [List.replicate_succ, List.sum_cons, ih]; rfl
  unfold weightsF
  rw [List.length_replicate, if_neg (by omega), hbad, if_neg (by omega), h0', if_pos rfl]

end Go.Proofs.YtajnfkmkombajabDoor
