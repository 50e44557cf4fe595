/-
  The walk of ChainActs.
-/
import Derived.Test.YtajnfkmkombajacGreatDoorQPA38
set_option linter.unusedVariables false
set_option linter.unusedSimpArgs false
set_option linter.unusedVariables false
namespace Go.Proofs.YtajnfkmkombajacGreatDoor
open Go.RowKit Go.Maps

/-- how much a chain may hold behind t acts -/
structure ActsBd (t n : Nat) (x : CS) : Prop where
  inv : x.Inv
  w : x.s.W.length ≤ t
  k : x.k.L.length ≤ t
  n : n ≤ 3 + 130 * t
  cy : x.cycle ≤ t
theorem ActsBd.new : ActsBd 0 3 CS.new := ⟨CS.new_inv, by decide, by decide, by decide, by decide⟩
theorem ActsBd.next {t n m : Nat} {x : CS} (h : ActsBd t n x) (ht : t < 120) (sd : Nat) (a : ActC) (hm : m ≤ n + 2 + x.s.W.length) : ActsBd (t + 1) m (x.doOp sd a).2 := by
  have o := CS.do_ok h.inv sd a
  have := o.w; have := o.k; have := o.cy; have := h.w; have := h.k; have := h.n; have := h.cy
  exact ⟨o.inv, by omega, by omega, by omega, by omega⟩
theorem ActsBd.wf {t n : Nat} {x : CS} (h : ActsBd t n x) (ht : t ≤ 120) : x.s.W.length ≤ 8000 ∧ n ≤ 900000 ∧ x.k.L.length ≤ 900000 ∧ x.cycle ≤ 1000000 ∧ (Lit.int .i64 x.cycle).wf = true := by
  have := h.w; have := h.k; have := h.n; have := h.cy; have := h.inv.cy
  exact ⟨by omega, by omega, by omega, by omega, WalkArith.wf_i64 (by omega)⟩

set_option maxRecDepth 8000 in
set_option maxHeartbeats 2000000 in
theorem cacts_walk (A : Nat → Addr) (sd : Nat) (hs : sd < 18446744073709551616) (a0 : Option Addr) (len0 cap0 : Nat) (l0 : List ActC) (w : World) (hS : Sents A w) (R0 : RdR ActC.enc 9 w a0 len0 cap0 l0) (hwf : ∀ x ∈ l0, x.wf) (hl : len0 ≤ 120) :
    Calls Tryz.prog 8 #[.int .u64 sd, .slice a0 len0 cap0] w fun e w' => e = .returned (.bool true) ∧ Below w.heap.size w w' := by
  have HS := Lib.hid hS; clear hS
  have HR0 := Lib.hid R0; clear R0
  have HWF := Lib.hid hwf; clear hwf
  have mS : ∀ c ∈ [2, 3, 4, 5, 6, 7, 8, 9], c ∈ [1, 2, 3, 4, 5, 6, 7, 8, 9, 10] := by decide
  have m2 : (2 : Nat) ∈ [1, 2, 3, 4, 5, 6, 7, 8, 9, 10] := by decide
  have m4 : (4 : Nat) ∈ [1, 2, 3, 4, 5, 6, 7, 8, 9, 10] := by decide
  have m5 : (5 : Nat) ∈ [1, 2, 3, 4, 5, 6, 7, 8, 9, 10] := by decide
  have m6 : (6 : Nat) ∈ [1, 2, 3, 4, 5, 6, 7, 8, 9, 10] := by decide
  have m7 : (7 : Nat) ∈ [1, 2, 3, 4, 5, 6, 7, 8, 9, 10] := by decide
  have m8 : (8 : Nat) ∈ [1, 2, 3, 4, 5, 6, 7, 8, 9, 10] := by decide
  have d1 : decide ((120 : Int) < (len0 : Int)) = false := by simp; omega
  go_enter Tryz.func8, Tryz.ntmps8
  go_wp2_with fail
  refine (law_begun A _ _ HS.out.errs mS).mono ?_
  rintro e w0 ⟨rfl, hb0⟩
  have HB0 := Lib.hid hb0; clear hb0
  have HS0 := Lib.hid (HS.out.below HB0.out)
  go_wp2_with fail
  refine (chain_New A [1, 2, 3, 4, 5, 6, 7, 8, 9, 10] sd _ HS0.out.errs m2 m4 m5 m6 m7 m8).mono ?_
  rintro e w1 ⟨cb, K, rfl, g1⟩
  have H1 := Lib.hid g1.cn; clear g1
  go_wp2_with fail
  refine (refc_New sd _).mono ?_
  rintro e w2 ⟨rb, Rr, rfl, g2⟩
  have HT := Lib.hid (ctwo_new H1.out g2)
  clear g2 H1
  go_wp2_with fail
  go_loopg [8] len0 (fun g i wr => ∃ (t n : Nat) (K : ChL) (R : RChL) (x : CS) (Z : List (List Int)), CTwo w0 cb K n rb R sd x x Z wr ∧ ActsBd t n x ∧ g + t = len0 ∧ i = .int .i64 t)
  case atStart => exact ⟨0, 3, K, Rr, CS.new, _, HT.out, ActsBd.new, rfl, rfl⟩
  case round =>
    clear HT
    obtain ⟨t, n, K, R, x, Z, hc, hx, hg, rfl⟩ := hrel
    have H := Lib.hid hc; have HX := Lib.hid hx; have HG := Lib.hid hg; clear hc hx hg
    by_cases hlt : t < len0
    · obtain ⟨a, ha⟩ : ∃ a, l0[t]? = some a := ⟨_, List.getElem?_eq_getElem (by rw [HR0.out.size]; exact hlt)⟩
      obtain ⟨bb, off, rfl, hbl, hcs⟩ := (HR0.out.below (btrans HB0.out H.out.below)).cells t a ha
      have haw := HWF.out a (List.mem_of_getElem? ha)
      have c0 := hcs 0 (by decide)
      have c1 := hcs 1 (by decide)
      have c2 := hcs 2 (by decide)
      have c3 := hcs 3 (by decide)
      have c4 := hcs 4 (by decide)
      have c5 := hcs 5 (by decide)
      have c6 := hcs 6 (by decide)
      have c7 := hcs 7 (by decide)
      have c8 := hcs 8 (by decide)
      simp only [ActC.enc, List.getElem?_cons_zero, List.getElem?_cons_succ, Nat.add_zero] at c0 c1 c2 c3 c4 c5 c6 c7 c8
      obtain ⟨hw1, hw2, hw3, hw4, hw5⟩ := HX.out.wf (by omega)
      have HACT := Lib.hid (law3_act A w0 cb K n rb R sd x Z wr a H.out HX.out.inv hs HS0.out hw1 hw2 hw3 haw hw4)
      have HNX := Lib.hid (fun m (hm : m ≤ n + 2 + x.s.W.length) => HX.out.next (by omega) sd a hm)
      clear hw1 hw2 hw3 hw4 hw5 ha haw hcs
      unfold ActC.enc at HACT
      generalize (x.doOp sd a).2 = y at *
      go_wp2_with fail
      refine HACT.out.mono ?_
      rintro e w3 ⟨rfl, K2, n2, R2, Z2, hn2, hT2⟩
      have H2 := Lib.hid hT2
      have HB2 := Lib.hid (HNX.out n2 hn2)
      clear hT2 hn2 c0 c1 c2 c3 c4 c5 c6 c7 c8 HACT HNX
      obtain ⟨hw1, hw2, hw3, hw4, hw5⟩ := HB2.out.wf (by omega)
      have HAS := Lib.hid (law3_as A w0 cb K2 n2 rb R2 sd y Z2 w3 H2.out HS0.out hw1 hw5)
      clear hw1 hw2 hw3 hw4 hw5
      have hG := HG.out
      by_cases hm : t % 8 = 0
      · have hm1 : (((t : Int).tmod 8 : Int) == 0) = true := by
          rw [Int.tmod_eq_emod_of_nonneg (by omega)]; simp; omega
        have hm2 : (t % 8 == 0) = true := by simpa using hm
        go_wp2_with fail
        refine HAS.out.mono ?_
        rintro e w4 ⟨rfl, hb4⟩
        have H4 := Lib.hid (H2.out.next hb4); clear hb4
        go_wp2_with fail
        go_roundg (len0 - (t + 1))
        case measure => omega
        case rel => exact ⟨t + 1, n2, K2, R2, y, Z2, H4.out, HB2.out, by omega, by go_num⟩
      · have hm1 : (((t : Int).tmod 8 : Int) == 0) = false := by
          rw [Int.tmod_eq_emod_of_nonneg (by omega)]; simp; omega
        have hm2 : (t % 8 == 0) = false := by simpa using hm
        go_wp2_with fail
        go_roundg (len0 - (t + 1))
        case measure => omega
        case rel => exact ⟨t + 1, n2, K2, R2, y, Z2, H2.out, HB2.out, by omega, by go_num⟩
    · have htl : t = len0 := by have := HG.out; omega
      subst htl
      obtain ⟨hw1, hw2, hw3, hw4, hw5⟩ := HX.out.wf (by omega)
      have HAS := Lib.hid (law3_as A w0 cb K n rb R sd x Z wr H.out HS0.out hw1 hw5)
      clear hw1 hw2 hw3 hw4 hw5
      go_wp2_with fail
      refine HAS.out.mono ?_
      rintro e w4 ⟨rfl, hb4⟩
      have H4 := Lib.hid (H.out.next hb4); clear hb4
      go_wp2_with fail
      go_ret
      exact ⟨rfl, btrans HB0.out H4.out.below⟩

set_option maxRecDepth 8000 in
theorem cacts_all (A : Nat → Addr) (sd : Nat) (hs : sd < 18446744073709551616) (a0 : Option Addr) (len0 cap0 : Nat) (l0 : List ActC) (w : World) (hS : Sents A w) (R0 : RdR ActC.enc 9 w a0 len0 cap0 l0) (hwf : ∀ x ∈ l0, x.wf) :
    Calls Tryz.prog 8 #[.int .u64 sd, .slice a0 len0 cap0] w fun e w' => e = .returned (.bool true) ∧ Below w.heap.size w w' := by
  by_cases hl : len0 ≤ 120
  · exact cacts_walk A sd hs a0 len0 cap0 l0 w hS R0 hwf hl
  · have HS := Lib.hid hS
    have d1 : decide ((120 : Int) < (len0 : Int)) = true := by simp; omega
    clear hS R0 hwf
    go_enter Tryz.func8, Tryz.ntmps8
    go_wp2_with fail
    refine (law_begun A _ _ HS.out.errs (by decide : ∀ c ∈ [2, 3, 4, 5, 6, 7, 8, 9], c ∈ [1, 2, 3, 4, 5, 6, 7, 8, 9, 10])).mono ?_
    rintro e w0 ⟨rfl, hb0⟩
    have HB0 := Lib.hid hb0; clear hb0
    go_wp2_with fail
    go_ret
    exact ⟨rfl, HB0.out⟩
end Go.Proofs.YtajnfkmkombajacGreatDoor
