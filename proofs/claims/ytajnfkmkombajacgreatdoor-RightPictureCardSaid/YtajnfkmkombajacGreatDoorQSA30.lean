/-
  The walk of RightOnly.
  The walk of RightPicture.
-/
import Derived.Test.YtajnfkmkombajacGreatDoorQSA29
import Derived.Test.YtajnfkmkombajacGreatDoorQSA01
import Derived.Test.YtajnfkmkombajacGreatDoorQSA25
set_option linter.unusedVariables false
set_option linter.unusedSimpArgs false
set_option linter.unusedVariables false
namespace Go.Proofs.YtajnfkmkombajacGreatDoor
open Go.RowKit

theorem picture_nil (w : World) : Calls Tryz.prog 29 #[.pointer none] w fun e w' => e = .returned (.slice (some ⟨w.heap.size, 0, none⟩) 3 3) ∧ w.alloc (.cells #[.int .i64 0, .int .i64 0, .int .i64 0] 3) = w' := by
  have hmk : ∀ w, (Instr.makeSlice 38 (.int .i64 3) (.int .i64 3)).run Tryz.prog w = .ok (.slice (some ⟨w.heap.size, 0, none⟩) 3 3) (w.alloc (.cells #[.int .i64 0, .int .i64 0, .int .i64 0] 3)) := fun _ => by kernel_rfl
  go_enter Tryz.func29, Tryz.ntmps29
  go_wp2
  go_ret
  exact ⟨rfl, rfl⟩

theorem entitled_one (s c l r : Int) : bakerF [0, 5, 0] 1 2 3 = (0, -1) ∧ bakerV [0, 5, 0] s c l r = 1 := by
  have hw : weightsF [0, 5, 0] = (0, -1) := by rfl
  refine ⟨by unfold bakerF; rw [if_pos (by unfold roundOk; omega), hw], ?_⟩
  obtain ⟨k, hk, hl, hp⟩ := bakerV_weight (zs := [0, 5, 0]) (by rw [hw]) s c l r
  match k, hl with
  | 0, _ => simp at hp
  | 1, _ => exact hk
  | 2, _ => simp at hp

set_option maxRecDepth 8000 in
theorem law_entitled (A : Nat → Addr) (S : List Nat) (w : World) (hE : Errs A S w) (h2 : 2 ∈ S) (h3 : 3 ∈ S) (h4 : 4 ∈ S) :
    Calls Tryz.prog 27 #[] w fun e w' => e = .returned (.bool true) ∧ Below w.heap.size w w' := by
  have HE := Lib.hid hE; clear hE
  obtain ⟨f1, f2⟩ := entitled_one ((7 : Nat) : Int) 1 2 3
  have F1 := Lib.hid f1; have F2 := Lib.hid f2
  clear f1 f2
  have R := RdI.of_rowAt (k := .i64) (zs := [0, 5, 0]) (RowAt.new w 3 [.int .i64 0, .int .i64 5, .int .i64 0]) (by unfold maxLen; simp)
  have b0 := (Below.refl w.heap.size w).alloc (Nat.le_refl _) (.cells #[.int .i64 0, .int .i64 5, .int .i64 0] 3)
  have HB := Lib.hid (right_Baker A S _ _ [0, 5, 0] 7 (by decide) 1 2 3 _ R (HE.out.below b0) h2 h3 h4)
  have Hb0 := Lib.hid b0
  clear R b0
  go_enter Tryz.func27, Tryz.ntmps27
  go_wp2_with fail
  refine HB.out.mono ?_
  rintro e w1 ⟨v, rfl, hv, hb1⟩
  rw [F1.out] at hv ⊢
  have hv0 := hv.yes rfl rfl
  subst hv0
  rw [if_pos rfl, F2.out]
  have b1 := Lib.hid (btrans Hb0.out hb1)
  clear hv hb1
  go_wp2_with fail
  refine (picture_nil _).mono ?_
  rintro e w' ⟨rfl, rfl⟩
  have RX := RdI.of_rowAt (k := .i64) (zs := [0, 0, 0]) ((RowAt.new w1 3 [.int .i64 0, .int .i64 0, .int .i64 0]).alloc (.cells #[.int .i64 0, .int .i64 0, .int .i64 0] 3)) (by unfold maxLen; simp)
  have RY := RdI.of_rowAt (k := .i64) (zs := [0, 0, 0]) (RowAt.new (w1.alloc (.cells #[.int .i64 0, .int .i64 0, .int .i64 0] 3)) 3 [.int .i64 0, .int .i64 0, .int .i64 0]) (by unfold maxLen; simp)
  simp only [World.size_alloc] at RY
  have HX := Lib.hid RX; have HY := Lib.hid RY
  clear RX RY
  go_wp2_with fail
  refine (ref_SameInts _ _ 3 3 3 [0, 0, 0] _ HX.out HY.out).mono ?_
  rintro e w' ⟨rfl, d, rfl⟩
  go_wp2_with fail
  go_ret
  exact ⟨rfl, ((b1.out.alloc b1.out.size _).alloc (by have := b1.out.size; simp; omega) _).drewN _⟩

theorem only_plain (n k : Nat) (x : Int) (hk : k < n) (hn : n ≤ 64) (h1 : 1 ≤ x) (h2 : x ≤ 1073741824) : (weightsF ((List.replicate n (0 : Int)).set k x)).1 = 0 ∧ ∀ j, 0 < ((List.replicate n (0 : Int)).set k x).getD j 0 → j = k := by
  have hlen : ((List.replicate n (0 : Int)).set k x).length = n := by simp
  have hall : ∀ y ∈ (List.replicate n (0 : Int)).set k x, 0 ≤ y ∧ y ≤ 1073741824 := by
    intro y hy
    rcases List.mem_or_eq_of_mem_set hy with h | h
    · have := (List.mem_replicate.1 h).2; omega
    · omega
  have hbad : firstBad ((List.replicate n (0 : Int)).set k x) = -1 := by
    apply findIdx_none
    intro j hj
    have := hall _ (show ((List.replicate n (0 : Int)).set k x).getD j 0 ∈ _ by rw [List.getD_eq_getElem?_getD, List.getElem?_eq_getElem hj]; exact List.getElem_mem _)
    simp only [badW, Bool.or_eq_false_iff, decide_eq_false_iff_not]; omega
  have hsum : ((List.replicate n (0 : Int)).set k x).sum = x := by
    have h := sum_set (List.replicate n 0) k x (by simp; exact hk)
    have h0 : (List.replicate n (0 : Int)).sum = 0 := by
      clear h hbad hall hlen hn hk
      induction n with
      | zero => rfl
      | succ n ih => rw [List.replicate_succ, List.sum_cons, ih]; rfl
    rw [h, h0]; simp [hk]
  refine ⟨?_, fun j hj => ?_⟩
  · unfold weightsF
    rw [hlen, if_neg (by omega), hbad, if_neg (by omega), hsum, if_neg (by omega)]
  · apply Decidable.byContradiction
    intro hne
    rw [getD_set_other _ _ _ _ _ (Ne.symm hne)] at hj
    rw [List.getD_eq_getElem?_getD, List.getElem?_replicate] at hj
    split at hj <;> simp at hj
theorem none_plain (n : Nat) (h0 : 1 ≤ n) (hn : n ≤ 64) : weightsF (List.replicate n (0 : Int)) = (4, -1) := by
  have hbad : firstBad (List.replicate n (0 : Int)) = -1 := by
    apply findIdx_none
    intro j hj
    simp only [List.length_replicate] at hj
    simp [badW, hj]
  have h0' : (List.replicate n (0 : Int)).sum = 0 := by
    clear hbad h0 hn
    induction n with
    | zero => rfl
    | succ n ih => rw [List.replicate_succ, List.sum_cons, ih]; rfl
  unfold weightsF
  rw [List.length_replicate, if_neg (by omega), hbad, if_neg (by omega), h0', if_pos rfl]

end Go.Proofs.YtajnfkmkombajacGreatDoor
namespace Go.Proofs.YtajnfkmkombajacGreatDoor
open Go.RowKit Go.Maps

set_option maxRecDepth 8000 in
set_option maxHeartbeats 2000000 in
theorem rpic_walk (A : Nat → Addr) (a0 : Option Addr) (len0 cap0 : Nat) (l0 : List ActS) (w : World) (hS : Sents A w) (R0 : RdR ActS.enc 5 w a0 len0 cap0 l0) (hwf : ∀ x ∈ l0, x.wf) (hl : len0 ≤ 60) :
    Calls Tryz.prog 4 #[.slice a0 len0 cap0] w fun e w' => e = .returned (.bool true) ∧ Below w.heap.size w w' := by
  have HS := Lib.hid hS; clear hS
  have HR0 := Lib.hid R0; clear R0
  have HWF := Lib.hid hwf; clear hwf
  have m2 : (2 : Nat) ∈ [1, 2, 3, 4, 5, 6, 7, 8, 9, 10] := by decide
  have m3 : (3 : Nat) ∈ [1, 2, 3, 4, 5, 6, 7, 8, 9, 10] := by decide
  have m4 : (4 : Nat) ∈ [1, 2, 3, 4, 5, 6, 7, 8, 9, 10] := by decide
  have d1 : decide ((60 : Int) < (len0 : Int)) = false := by simp; omega
  go_enter Tryz.func4, Tryz.ntmps4
  go_wp2_with fail
  refine (law_entitled A _ _ HS.out.errs m2 m3 m4).mono ?_
  rintro e w0 ⟨rfl, hb0⟩
  have HB0 := Lib.hid hb0; clear hb0
  have HS0 := Lib.hid (HS.out.below HB0.out)
  go_wp2_with fail
  refine (stake_New _).mono ?_
  rintro e w1 ⟨rfl, hb1, hs1⟩
  have H1 := Lib.hid (And.intro hb1 hs1); clear hb1 hs1
  go_wp2_with fail
  refine (refs_New _).mono ?_
  rintro e w2 ⟨rb, rfl, hb2, hs2⟩
  have H2 := Lib.hid (two_new H1.out.1 H1.out.2 hb2 hs2); clear hb2 hs2 H1
  generalize hsb : w0.heap.size = sb at *
  clear hsb
  go_wp2_with fail
  go_loopg [6] len0 (fun g i wr => ∃ (t n : Nat) (Fs Fr : Nat → Prop) (s : SS), STwo w0 sb n Fs rb Fr s s wr ∧ g + t = len0 ∧ i = .int .i64 t ∧ (s.W.length ≤ t ∧ n ≤ 130 * t))
  case atStart => exact ⟨0, 0, _, _, SS.new, H2.out, rfl, rfl, by decide, by decide⟩
  case round =>
    clear H2
    obtain ⟨t, n, Fs, Fr, s, hT, hg, rfl, hbd⟩ := hrel
    have H := Lib.hid hT; have HG := Lib.hid hg; have HBD := Lib.hid hbd; clear hT hg hbd
    by_cases hlt : t < len0
    · obtain ⟨a, ha⟩ : ∃ a, l0[t]? = some a := ⟨_, List.getElem?_eq_getElem (by rw [HR0.out.size]; exact hlt)⟩
      obtain ⟨bb, off, rfl, hbl, hcs⟩ := (HR0.out.below (btrans HB0.out H.out.below)).cells t a ha
      have HAW := Lib.hid (HWF.out a (List.mem_of_getElem? ha))
      have c0 := hcs 0 (by decide)
      have c1 := hcs 1 (by decide)
      have c2 := hcs 2 (by decide)
      have c3 := hcs 3 (by decide)
      have c4 := hcs 4 (by decide)
      simp only [ActS.enc, List.getElem?_cons_zero, List.getElem?_cons_succ, Nat.add_zero] at c0 c1 c2 c3 c4
      clear ha hcs
      have hw0 := HBD.out.1; have hw1 := HBD.out.2
      have HACT := Lib.hid (law2_act A w0 sb n Fs rb Fr s wr a H.out HAW.out HS0.out (by omega) (by omega))
      have HLEN := Lib.hid (SS.actS_len s a)
      clear hw0 hw1
      generalize s.actS a = y at *
      go_wp2_with fail
      refine HACT.out.mono ?_
      rintro e w3 ⟨rfl, n2, Fs2, Fr2, hn2, hT2⟩
      have H2 := Lib.hid hT2; have HN2 := Lib.hid hn2; clear hT2 hn2 c0 c1 c2 c3 c4
      go_wp2_with fail
      refine (right_Picture sb n2 Fs2 y _ H2.out.law).mono ?_
      rintro e w4 ⟨rfl, hb4, hr4⟩
      have H4 := Lib.hid (H2.out.next hb4)
      have HR4 := Lib.hid hr4; clear hb4 hr4
      go_wp2_with fail
      refine (refs_PictureOf rb Fr2 y _ H4.out.doc).mono ?_
      rintro e w5 ⟨ao, cap, rfl, ho5, hb5⟩
      have H5 := Lib.hid (H4.out.next hb5)
      have HR5 := Lib.hid (HR4.out.below hb5 HR4.out.lt)
      have HO5 := Lib.hid ho5; clear ho5 hb5
      have hl3 : y.picture.length = 3 := rfl
      go_wp2_with fail
      refine (ref_SameInts (some ⟨w3.heap.size, 0, none⟩) ao 3 3 cap y.picture _ (RdI.of_rowAt HR5.out (by rw [hl3]; decide)) (RdI.of_own HO5.out)).mono ?_
      rintro e w6 ⟨rfl, hd⟩
      have H6 := Lib.hid (H5.out.dr hd); clear hd
      go_wp2_with fail
      have hg := HG.out
      go_roundg (len0 - (t + 1))
      case measure => omega
      case rel => exact ⟨t + 1, n2, Fs2, Fr2, y, H6.out, by omega, by go_num, by have := HLEN.out; have := HBD.out.1; omega, by have := HN2.out; have := HBD.out; omega⟩
    · go_wp2_with fail
      go_ret
      exact ⟨rfl, btrans HB0.out H.out.below⟩

set_option maxRecDepth 8000 in
theorem rpic_all (A : Nat → Addr) (a0 : Option Addr) (len0 cap0 : Nat) (l0 : List ActS) (w : World) (hS : Sents A w) (R0 : RdR ActS.enc 5 w a0 len0 cap0 l0) (hwf : ∀ x ∈ l0, x.wf) :
    Calls Tryz.prog 4 #[.slice a0 len0 cap0] w fun e w' => e = .returned (.bool true) ∧ Below w.heap.size w w' := by
  by_cases hl : len0 ≤ 60
  · exact rpic_walk A a0 len0 cap0 l0 w hS R0 hwf hl
  · have HS := Lib.hid hS
    have m2 : (2 : Nat) ∈ [1, 2, 3, 4, 5, 6, 7, 8, 9, 10] := by decide
    have m3 : (3 : Nat) ∈ [1, 2, 3, 4, 5, 6, 7, 8, 9, 10] := by decide
    have m4 : (4 : Nat) ∈ [1, 2, 3, 4, 5, 6, 7, 8, 9, 10] := by decide
    have d1 : decide ((60 : Int) < (len0 : Int)) = true := by simp; omega
    clear hS R0 hwf
    go_enter Tryz.func4, Tryz.ntmps4
    go_wp2_with fail
    refine (law_entitled A _ _ HS.out.errs m2 m3 m4).mono ?_
    rintro e w0 ⟨rfl, hb0⟩
    go_wp2_with fail
    go_ret
    exact ⟨rfl, hb0⟩
end Go.Proofs.YtajnfkmkombajacGreatDoor
