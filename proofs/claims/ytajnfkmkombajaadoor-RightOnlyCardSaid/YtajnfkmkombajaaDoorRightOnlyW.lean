/- The walk of RightOnly. -/
import Derived.Test.YtajnfkmkombajaaDoorRounds
import Derived.Test.YtajnfkmkombajaaDoorSame
import Derived.Test.YtajnfkmkombajaaDoorPlPurse
set_option linter.unusedVariables false
set_option linter.unusedSimpArgs false
namespace Go.Proofs.YtajnfkmkombajaaDoor
open Go.RowKit

theorem picture_nil (w : World) : Calls Tryd.prog 78 #[.pointer none] w fun e w' => e = .returned (.slice (some ⟨w.heap.size, 0, none⟩) 3 3) ∧ w.alloc (.cells #[.int .i64 0, .int .i64 0, .int .i64 0] 3) = w' := by
  have hmk : ∀ w, (Instr.makeSlice 23 (.int .i64 3) (.int .i64 3)).run Tryd.prog w = .ok (.slice (some ⟨w.heap.size, 0, none⟩) 3 3) (w.alloc (.cells #[.int .i64 0, .int .i64 0, .int .i64 0] 3)) := fun _ => by kernel_rfl
  go_enter Tryd.func78, Tryd.ntmps78
  go_wp2
  go_ret
  exact ⟨rfl, rfl⟩

theorem entitled_one (s c l r : Int) : bakerF [0, 5, 0] 1 2 3 = (0, -1) ∧ bakerV [0, 5, 0] s c l r = 1 := by
  have hw : weightsF [0, 5, 0] = (0, -1) := by rfl
  refine ⟨by unfold bakerF; rw [if_pos (by unfold roundOk; omega), hw], ?_⟩
  obtain ⟨k, hk, hl, hp⟩ := bakerV_weight (zs := [0, 5, 0]) (by rw [hw]) s c l r
  match k, hl with
  | 0, _ => simp at hp
  | 1, _ => exact hk
  | 2, _ => simp at hp

set_option maxRecDepth 8000 in
theorem law_entitled (A : Nat → Addr) (S : List Nat) (w : World) (hE : Errs A S w) (h2 : 2 ∈ S) (h3 : 3 ∈ S) (h4 : 4 ∈ S) :
    Calls Tryd.prog 35 #[] w fun e w' => e = .returned (.bool true) ∧ Below w.heap.size w w' := by
  have HE := Lib.hid hE; clear hE
  obtain ⟨f1, f2⟩ := entitled_one ((7 : Nat) : Int) 1 2 3
  have F1 := Lib.hid f1; have F2 := Lib.hid f2
  clear f1 f2
  have R := RdI.of_rowAt (k := .i64) (zs := [0, 5, 0]) (RowAt.new w 3 [.int .i64 0, .int .i64 5, .int .i64 0]) (by unfold maxLen; simp)
  have b0 := (Below.refl w.heap.size w).alloc (Nat.le_refl _) (.cells #[.int .i64 0, .int .i64 5, .int .i64 0] 3)
  have HB := Lib.hid (right_Baker A S _ _ [0, 5, 0] 7 (by decide) 1 2 3 _ R (HE.out.below b0) h2 h3 h4)
  have Hb0 := Lib.hid b0
  clear R b0
  go_enter Tryd.func35, Tryd.ntmps35
  go_wp2_with fail
  refine HB.out.mono ?_
  rintro e w1 ⟨v, rfl, hv, hb1⟩
  rw [F1.out] at hv ⊢
  have hv0 := hv.yes rfl rfl
  subst hv0
  rw [if_pos rfl, F2.out]
  have b1 := Lib.hid (btrans Hb0.out hb1)
  clear hv hb1
  go_wp2_with fail
  refine (picture_nil _).mono ?_
  rintro e w' ⟨rfl, rfl⟩
  have RX := RdI.of_rowAt (k := .i64) (zs := [0, 0, 0]) ((RowAt.new w1 3 [.int .i64 0, .int .i64 0, .int .i64 0]).alloc (.cells #[.int .i64 0, .int .i64 0, .int .i64 0] 3)) (by unfold maxLen; simp)
  have RY := RdI.of_rowAt (k := .i64) (zs := [0, 0, 0]) (RowAt.new (w1.alloc (.cells #[.int .i64 0, .int .i64 0, .int .i64 0] 3)) 3 [.int .i64 0, .int .i64 0, .int .i64 0]) (by unfold maxLen; simp)
  simp only [World.size_alloc] at RY
  have HX := Lib.hid RX; have HY := Lib.hid RY
  clear RX RY
  go_wp2_with fail
  refine (ref_SameInts _ _ 3 3 3 [0, 0, 0] _ HX.out HY.out).mono ?_
  rintro e w' ⟨rfl, d, rfl⟩
  go_wp2_with fail
  go_ret
  exact ⟨rfl, ((b1.out.alloc b1.out.size _).alloc (by have := b1.out.size; simp; omega) _).drewN _⟩

theorem only_plain (n k : Nat) (x : Int) (hk : k < n) (hn : n ≤ 64) (h1 : 1 ≤ x) (h2 : x ≤ 1073741824) : (weightsF ((List.replicate n (0 : Int)).set k x)).1 = 0 ∧ ∀ j, 0 < ((List.replicate n (0 : Int)).set k x).getD j 0 → j = k := by
  have hlen : ((List.replicate n (0 : Int)).set k x).length = n := by simp
  have hall : ∀ y ∈ (List.replicate n (0 : Int)).set k x, 0 ≤ y ∧ y ≤ 1073741824 := by
    intro y hy
    rcases List.mem_or_eq_of_mem_set hy with h | h
    · have := (List.mem_replicate.1 h).2; omega
    · omega
  have hbad : firstBad ((List.replicate n (0 : Int)).set k x) = -1 := by
    apply findIdx_none
    intro j hj
    have := hall _ (show ((List.replicate n (0 : Int)).set k x).getD j 0 ∈ _ by rw [List.getD_eq_getElem?_getD, List.getElem?_eq_getElem hj]; exact List.getElem_mem _)
    simp only [badW, Bool.or_eq_false_iff, decide_eq_false_iff_not]; omega
  have hsum : ((List.replicate n (0 : Int)).set k x).sum = x := by
    have h := sum_set (List.replicate n 0) k x (by simp; exact hk)
    have h0 : (List.replicate n (0 : Int)).sum = 0 := by
      clear h hbad hall hlen hn hk
      induction n with
      | zero => rfl
      | succ n ih => rw [List.replicate_succ, List.sum_cons, ih]; rfl
    rw [h, h0]; simp [hk]
  refine ⟨?_, fun j hj => ?_⟩
  · unfold weightsF
    rw [hlen, if_neg (by omega), hbad, if_neg (by omega), hsum, if_neg (by omega)]
  · apply Decidable.byContradiction
    intro hne
    rw [getD_set_other _ _ _ _ _ (Ne.symm hne)] at hj
    rw [List.getD_eq_getElem?_getD, List.getElem?_replicate] at hj
    split at hj <;> simp at hj
theorem none_plain (n : Nat) (h0 : 1 ≤ n) (hn : n ≤ 64) : weightsF (List.replicate n (0 : Int)) = (4, -1) := by
  have hbad : firstBad (List.replicate n (0 : Int)) = -1 := by
    apply findIdx_none
    intro j hj
    simp only [List.length_replicate] at hj
    simp [badW, hj]
  have h0' : (List.replicate n (0 : Int)).sum = 0 := by
    clear hbad h0 hn
    induction n with
    | zero => rfl
    | succ n ih => rw [List.replicate_succ, List.sum_cons, ih]; rfl
  unfold weightsF
  rw [List.length_replicate, if_neg (by omega), hbad, if_neg (by omega), h0', if_pos rfl]

set_option maxRecDepth 8000 in
set_option maxHeartbeats 1000000 in
theorem only_walk (A : Nat → Addr) (S : List Nat) (n k : Nat) (x : Int) (s : Nat) (hs : s < 18446744073709551616) (c l : Int) (w : World) (hE : Errs A S w) (h2 : 2 ∈ S) (h3 : 3 ∈ S) (h4 : 4 ∈ S)
    (hn1 : 1 ≤ n) (hn : n ≤ 64) (hk : k < n) (hx1 : 1 ≤ x) (hx2 : x ≤ 1073741824) (hc : 0 ≤ c ∧ c ≤ 1048576) (hl : 0 ≤ l ∧ l ≤ 4194304) :
    Calls Tryd.prog 7 #[.int .i64 n, .int .i64 k, .int .i64 x, .int .u64 s, .int .i64 c, .int .i64 l] w fun e w' => e = .returned (.bool true) ∧ Below w.heap.size w w' := by
  have HE := Lib.hid hE; clear hE
  have hmk := make_ints n (by omega)
  obtain ⟨ho1, ho2⟩ := only_plain n k x hk hn hx1 hx2
  have hnp := none_plain n hn1 hn
  have hR0 : roundOk c l 0 := ⟨hc, hl, by omega⟩
  have HF0 := Lib.hid (show bakerF (List.replicate n 0) c l 0 = (4, -1) by unfold bakerF; rw [if_pos hR0, hnp])
  have HF1 := Lib.hid (show (bakerF ((List.replicate n (0 : Int)).set k x) c l 0).1 = 0 by unfold bakerF; rw [if_pos hR0, ho1])
  have HV := Lib.hid (show ∀ r : Int, bakerV ((List.replicate n (0 : Int)).set k x) s c l r = (k : Int) from fun r => by
    obtain ⟨j, hj, _, hp⟩ := bakerV_weight ho1 (s : Int) c l r
    rw [hj, ho2 j hp])
  have HRo := Lib.hid (fun ao cap zs wx hr hx => right_Rounds A S ao cap zs s hs c l wx hr hx h2 h3 h4)
  have d1 : decide ((n : Int) < 1) = false := decide_eq_false (by omega)
  have d2 : decide ((64 : Int) < (n : Int)) = false := decide_eq_false (by omega)
  have d3 : decide ((k : Int) < 0) = false := decide_eq_false (by omega)
  have d4 : decide (n ≤ k) = false := decide_eq_false (by omega)
  have d5 : decide (x < 1) = false := decide_eq_false (by omega)
  have d6 : decide (1073741824 < x) = false := decide_eq_false (by omega)
  have d7 : decide (c < 0) = false := decide_eq_false (by omega)
  have d8 : decide (1048576 < c) = false := decide_eq_false (by omega)
  have d9 : decide (l < 0) = false := decide_eq_false (by omega)
  have d10 : decide (4194304 < l) = false := decide_eq_false (by omega)
  clear ho1 ho2 hnp hR0 hc hl hs
  go_enter Tryd.func7, Tryd.ntmps7
  go_wp2_with fail
  refine (law_entitled A S _ HE.out h2 h3 h4).mono ?_
  rintro e w0 ⟨rfl, hb0⟩
  go_wp2_with fail
  have hr0 := RowAt.new w0 3 (zeroVs n)
  have hb1 := hb0.alloc hb0.size (.cells (zeroVs n).toArray 3)
  have R0 := RdI.of_rowAt (k := .i64) (zs := List.replicate n 0) hr0 (by unfold maxLen; simp; omega)
  rw [List.length_replicate] at R0
  have hro := HRo.out (some ⟨w0.heap.size, 0, none⟩) n (List.replicate n 0)
  rw [List.length_replicate] at hro
  refine (hro _ R0 (HE.out.below hb1)).mono ?_
  rintro e w2 ⟨hb2, hp⟩
  rw [HF0.out] at hp
  obtain ⟨_, v, rfl, hv⟩ := hp.resolve_right (by simp)
  obtain ⟨t, y, rfl⟩ := hv.no (by simp)
  have hr2 := hr0.below hb2 (by simp)
  have hb3 := btrans hb1 hb2
  have hcell : w2.cell? ⟨w0.heap.size, k, none⟩ = some (.int .i64 0) := by rw [hr2.cell, zeros_map]; simp [hk]
  have hfr := hr2.frozen k
  have hset := hr2.set k (.int .i64 x)
  rw [zeros_map, ← List.map_set] at hset
  have hb4 := hb3.setCell (p := ⟨w0.heap.size, k, none⟩) hb0.size (.int .i64 x)
  have HS := Lib.hid hset; have HB4 := Lib.hid hb4; have HB0 := Lib.hid hb0
  clear hv hp hb2 hr0 hr2 hb3 hset hb4 hb0 hb1 R0 hro hmk
  go_wp2_with fail
  have R4 := RdI.of_rowAt (k := .i64) HS.out (by unfold maxLen; simp; omega)
  have hro := HRo.out (some ⟨w0.heap.size, 0, none⟩) n ((List.replicate n (0 : Int)).set k x)
  rw [List.length_set, List.length_replicate] at R4 hro
  refine (hro _ R4 (HE.out.below HB4.out)).mono ?_
  rintro e w5 ⟨hb5, hp⟩
  obtain ⟨_, ao, cap, rfl, ho⟩ := hp.resolve_left (fun h => h.1 HF1.out)
  have hb6 := btrans HB4.out hb5
  have R := RdI.of_own ho
  have HB6 := Lib.hid hb6
  have hall : ∀ j, j < 8 → (roundsV ((List.replicate n (0 : Int)).set k x) s c l 8).getD j 0 = (k : Int) := by
    intro j hj
    simp [roundsV, hj, HV.out]
  have HAll := Lib.hid hall
  have HRd := Lib.hid R
  clear hp hb5 hb6 R R4 hro ho hall
  generalize roundsV ((List.replicate n (0 : Int)).set k x) s c l 8 = rs at *
  have hkk : ((k : Int) != (k : Int)) = false := bne_self_eq_false _
  go_wp2_with fail
  go_loop [18] (fun i => ∃ j : Nat, j ≤ 8 ∧ i = .int .i64 j) (fun i => 8 - (intOf i).toNat)
  case atStart => exact ⟨0, by omega, rfl⟩
  case round =>
    obtain ⟨j, hj, rfl⟩ := hrel
    by_cases hlt : j < 8
    · obtain ⟨b', off', ha', hcz⟩ := HRd.out.cells j hlt
      rw [HAll.out j hlt] at hcz
      have Ha := Lib.hid ha'; clear ha'
      have := Ha.out; subst this
      go_wp2_with fail
      go_round
      case rel => exact ⟨j + 1, by omega, by go_num⟩
      case measure => simp [intOf]; omega
    · go_wp2
      go_ret
      exact ⟨rfl, HB6.out⟩

set_option maxRecDepth 8000 in
theorem only_all (A : Nat → Addr) (S : List Nat) (n k x : Int) (s : Nat) (hs : s < 18446744073709551616) (c l : Int) (w : World) (hE : Errs A S w) (h2 : 2 ∈ S) (h3 : 3 ∈ S) (h4 : 4 ∈ S) :
    Calls Tryd.prog 7 #[.int .i64 n, .int .i64 k, .int .i64 x, .int .u64 s, .int .i64 c, .int .i64 l] w fun e w' => e = .returned (.bool true) ∧ Below w.heap.size w w' := by
  by_cases h : 1 ≤ n ∧ n ≤ 64 ∧ 0 ≤ k ∧ k < n ∧ 1 ≤ x ∧ x ≤ 1073741824
  · obtain ⟨a1, a2, a3, a4, a5, a6⟩ := h
    by_cases h' : (0 ≤ c ∧ c ≤ 1048576) ∧ (0 ≤ l ∧ l ≤ 4194304)
    · obtain ⟨n, rfl⟩ := Int.eq_ofNat_of_zero_le (show 0 ≤ n by omega)
      obtain ⟨k, rfl⟩ := Int.eq_ofNat_of_zero_le a3
      exact only_walk A S n k x s hs c l w hE h2 h3 h4 (by omega) (by omega) (by omega) a5 a6 h'.1 h'.2
    · have HE := Lib.hid hE; clear hE
      have d1 : decide (n < 1) = false := decide_eq_false (by omega)
      have d2 : decide (64 < n) = false := decide_eq_false (by omega)
      have d3 : decide (k < 0) = false := decide_eq_false (by omega)
      have d4 : decide (n ≤ k) = false := decide_eq_false (by omega)
      have d5 : decide (x < 1) = false := decide_eq_false (by omega)
      have d6 : decide (1073741824 < x) = false := decide_eq_false (by omega)
      have hcases : c < 0 ∨ (decide (c < 0) = false ∧ 1048576 < c) ∨ (decide (c < 0) = false ∧ decide (1048576 < c) = false ∧ l < 0) ∨ (decide (c < 0) = false ∧ decide (1048576 < c) = false ∧ decide (l < 0) = false ∧ 4194304 < l) := by
        simp only [decide_eq_false_iff_not]; omega
      clear h' hs
      rcases hcases with h | ⟨e1, h⟩ | ⟨e1, e2, h⟩ | ⟨e1, e2, e3, h⟩
      all_goals
        go_enter Tryd.func7, Tryd.ntmps7
        go_wp2_with fail
        refine (law_entitled A S _ HE.out h2 h3 h4).mono ?_
        rintro e w0 ⟨rfl, hb0⟩
        go_wp2_with fail
        go_ret
        exact ⟨rfl, hb0⟩
  · have HE := Lib.hid hE; clear hE
    have hcases : n < 1 ∨ (decide (n < 1) = false ∧ 64 < n) ∨ (decide (n < 1) = false ∧ decide (64 < n) = false ∧ k < 0) ∨ (decide (n < 1) = false ∧ decide (64 < n) = false ∧ decide (k < 0) = false ∧ n ≤ k) ∨
        (decide (n < 1) = false ∧ decide (64 < n) = false ∧ decide (k < 0) = false ∧ decide (n ≤ k) = false ∧ x < 1) ∨ (decide (n < 1) = false ∧ decide (64 < n) = false ∧ decide (k < 0) = false ∧ decide (n ≤ k) = false ∧ decide (x < 1) = false ∧ 1073741824 < x) := by
      simp only [decide_eq_false_iff_not]; omega
    clear h hs
    rcases hcases with h | ⟨e1, h⟩ | ⟨e1, e2, h⟩ | ⟨e1, e2, e3, h⟩ | ⟨e1, e2, e3, e4, h⟩ | ⟨e1, e2, e3, e4, e5, h⟩
    all_goals
      go_enter Tryd.func7, Tryd.ntmps7
      go_wp2_with fail
      refine (law_entitled A S _ HE.out h2 h3 h4).mono ?_
      rintro e w0 ⟨rfl, hb0⟩
      go_wp2_with fail
      go_ret
      exact ⟨rfl, hb0⟩
end Go.Proofs.YtajnfkmkombajaaDoor
