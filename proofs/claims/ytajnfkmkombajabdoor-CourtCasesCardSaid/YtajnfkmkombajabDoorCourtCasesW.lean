/- The walk of CourtCases. -/
import Derived.Test.YtajnfkmkombajabDoorCourt4
import Derived.Test.YtajnfkmkombajabDoorRefCourt2
import Derived.Test.YtajnfkmkombajabDoorOpenB
import Derived.Deep.RegionWith
import Derived.Deep.RegionHeld3
import Derived.Deep.DeepCutAuto
import Derived.Deep.CutBlock
import Derived.Deep.LoopGhost
import Derived.Deep.QuietTactic
import Derived.BigQuiet
set_option linter.unusedVariables false
set_option linter.unusedSimpArgs false
namespace Go.Proofs.YtajnfkmkombajabDoor
open Go.RowKit Go.Maps

/-- the court, and the document's court beside it -/
structure CaseS (W : World) (kb : Nat) (F : Nat → Prop) (n : Nat) (kc : KS) (rb : Nat) (G : Nat → Prop) (kr : KS) (w : World) : Prop where
  cu : CU W kb F n kc w
  rc : RCourtAt rb G kr w
  new : ∀ b, G b → W.heap.size ≤ b
  dis : ∀ b, F b → ¬ G b
section
variable {W w w' : World} {kb rb n m : Nat} {F G : Nat → Prop} {kc kr k' : KS}
theorem CaseS.next (h : CaseS W kb F n kc rb G kr w) (b : Below w.heap.size w w') : CaseS W kb F n kc rb G kr w' := ⟨h.cu.next b, h.rc.below b, h.new, h.dis⟩
theorem CaseS.drewN (h : CaseS W kb F n kc rb G kr w) (j : Nat) : CaseS W kb F n kc rb G kr (w.drewN j) := h.next ((Below.refl _ _).drewN j)
theorem CaseS.ofC (h : CaseS W kb F n kc rb G kr w) (p : CourtP kb F m k' w w') : CaseS W kb (grownF F w w') m k' rb G kr w' :=
  ⟨h.cu.of p, h.rc.keep p.1 (fun b hb hf => h.dis b hf hb), h.new, fun b hb hg => by
    rcases hb with hb | hb
    · exact h.dis b hb hg
    · have := h.rc.lt b hg; omega⟩
theorem CaseS.ofR (h : CaseS W kb F n kc rb G kr w) (p : RCourtP rb G k' w w') : CaseS W kb F n kc rb (grownF G w w') k' w' :=
  ⟨h.cu.keep p.1 h.new h.dis, p.2, fun b hb => by
    rcases hb with hb | hb
    · exact h.new b hb
    · exact Nat.le_trans h.cu.below.size hb.1, fun b hf hb => by
    rcases hb with hb | hb
    · exact h.dis b hf hb
    · have := h.cu.ct.lt b hf; omega⟩
theorem CaseS.dueC (h : CaseS W kb F n kc rb G kr w) (K : Keep F w w') (c : CourtAt kb F n k' w') : CaseS W kb F n k' rb G kr w' := ⟨h.cu.due K c, h.rc.keep K (fun b hb hf => h.dis b hf hb), h.new, h.dis⟩
theorem CaseS.dueR (h : CaseS W kb F n kc rb G kr w) (K : Keep G w w') (c : RCourtAt rb G k' w') : CaseS W kb F n kc rb G k' w' := ⟨h.cu.keep K h.new h.dis, c, h.new, h.dis⟩
end
theorem cases_new {W w : World} {kb : Nat} {F : Nat → Prop} (h : CU W kb F 0 KS.new w) : CaseS W kb F 0 KS.new w.heap.size (fun b => b = w.heap.size) KS.new (w.alloc (.cells #[.slice none 0 0, .int .i64 0] 41)) := by
  have hb : Below w.heap.size w (w.alloc (.cells #[.slice none 0 0, .int .i64 0] 41)) := (Below.refl _ _).alloc (Nat.le_refl _) _
  refine ⟨h.next hb, ⟨.slice none 0 0, ⟨RowAt.new w 41 [.slice none 0 0, .int .i64 0], World.ownsRow_nil _ _ _ _, by simp [Value.ownBlock], Nat.le_refl _⟩, rfl, (fun g hg => by cases hg), fun b hb => by rw [hb]; simp⟩, fun b hb => by rw [hb]; exact h.below.size, fun b hf hg => by have := h.ct.lt b hf; omega⟩
theorem KS.code_le (k : KS) (o : Int) (e : EV) (cy : Int) : (k.accuse o e cy).1 ≤ 10 := by
  unfold KS.accuse
  split
  · unfold KS.code; repeat' split
    all_goals simp
  · simp
theorem KS.accuse_len (k : KS) (o : Int) (e : EV) (cy : Int) : (k.accuse o e cy).2.L.length ≤ k.L.length + 1 := by
  unfold KS.accuse; split <;> simp

set_option maxRecDepth 8000 in
set_option maxHeartbeats 4000000 in
theorem cases_walk (A : Nat → Addr) (a0 : Option Addr) (len0 cap0 : Nat) (l0 : List Brt) (lost : Int) (w : World) (hS : Sents A w) (R0 : RdR Brt.enc 6 w a0 len0 cap0 l0) (hwf : ∀ x ∈ l0, x.wf) (hl : len0 ≤ 100) (hm : lost ≤ 9223372036854775807) :
    Calls Tryd.prog 4 #[.slice a0 len0 cap0, .int .i64 lost] w fun e w' => e = .returned (.bool true) ∧ Below w.heap.size w w' := by
  have HS := Lib.hid hS; clear hS
  have HR0 := Lib.hid R0; clear R0
  have HWF := Lib.hid hwf; clear hwf
  have HM := Lib.hid hm; clear hm
  have m2 : (2 : Nat) ∈ [1, 2, 3, 4, 5, 6, 7, 8, 9, 10] := by decide
  have m5 : (5 : Nat) ∈ [1, 2, 3, 4, 5, 6, 7, 8, 9, 10] := by decide
  have m10 : (10 : Nat) ∈ [1, 2, 3, 4, 5, 6, 7, 8, 9, 10] := by decide
  have d1 : decide ((100 : Int) < (len0 : Int)) = false := by simp; omega
  have hGd := evGuard
  go_enter Tryd.func4, Tryd.ntmps4
  go_wp2_with fail
  refine (law_judged A _ HS.out).mono ?_
  rintro e w0 ⟨rfl, hb0⟩
  go_wp2_with fail
  refine (court_New _).mono ?_
  rintro e w1 ⟨rfl, hb1, hc1⟩
  have U0 := Lib.hid (cases_new (show CU w (w0.heap.size + 1) (fun b => b = w0.heap.size ∨ b = w0.heap.size + 1) 0 KS.new w1 from ⟨btrans hb0 hb1, hc1, fun b hb => by have := hb0.size; rcases hb with rfl | rfl <;> omega⟩))
  clear hb1 hc1 hb0
  generalize w0.heap.size + 1 = kb at *
  go_wp2_with fail
  generalize w1.heap.size = rb at *
  go_loopg [8] len0 (fun g i wr => ∃ (t n : Nat) (F G : Nat → Prop) (k : KS), CaseS w kb F n k rb G k wr ∧ g + t = len0 ∧ i = .int .i64 t ∧ k.L.length ≤ t ∧ n ≤ t)
  case atStart => exact ⟨0, 0, _, _, KS.new, U0.out, rfl, rfl, by decide, by decide⟩
  case round =>
    clear U0
    obtain ⟨t, n, F, G, k, hO, hg, rfl, hkl, hn⟩ := hrel
    have HO := Lib.hid hO; clear hO
    have HG := Lib.hid (And.intro hg (And.intro hkl hn))
    have HLN := Lib.hid (show k.L.length ≤ 100 by omega); clear hkl hn
    have htl : t ≤ len0 := by omega
    clear hg
    by_cases hlt : t < len0
    · obtain ⟨x, hx⟩ : ∃ x, l0[t]? = some x := ⟨_, List.getElem?_eq_getElem (by rw [HR0.out.size]; exact hlt)⟩
      obtain ⟨bb, off, rfl, hbl, hcs⟩ := HR0.out.cells t x hx
      have hxw := HWF.out x (List.mem_of_getElem? hx)
      obtain ⟨o, e, cy, du⟩ := x
      have HCELL := Lib.hid (show ∀ wx, Below w.heap.size w wx → (wx.cell? ⟨bb, off + t * 6, none⟩ = some (.int .i64 o) ∧ wx.cell? ⟨bb, off + t * 6 + 1, none⟩ = some (.int .i64 e.b) ∧ wx.cell? ⟨bb, off + t * 6 + 2, none⟩ = some (.int .i64 e.c) ∧ wx.cell? ⟨bb, off + t * 6 + 3, none⟩ = some (.int .i64 e.n) ∧ wx.cell? ⟨bb, off + t * 6 + 4, none⟩ = some (.int .i64 cy)) ∧ wx.cell? ⟨bb, off + t * 6 + 5, none⟩ = some (.bool du) from fun wx hb => by
        have c := fun j (hj : j < 6) => (hb.cell (p := ⟨bb, off + t * 6 + j, none⟩) hbl).trans (hcs j hj)
        exact ⟨⟨c 0 (by decide), c 1 (by decide), c 2 (by decide), c 3 (by decide), c 4 (by decide)⟩, c 5 (by decide)⟩)
      have HXW := Lib.hid hxw; clear hx hxw hcs
      have c5 := (HCELL.out _ HO.out.cu.below).2
      have hne : ((t : Int) == (len0 : Int)) = false := by simp; omega
      go_upto_if 45 with fail
      go_cut [9, 10, 11] (fun _ _ _ wx => ∃ k', CaseS w kb F n k' rb G k' wx ∧ k'.L = k.L)
      case first =>
        cases du with
        | false =>
          go_wp2_with fail
          go_meet
          case rel => exact ⟨k, HO.out, rfl⟩
        | true =>
          have hkl := HLN.out
          have hdu : k.due.length ≤ 100 := by unfold KS.due; rw [List.length_drop]; omega
          go_wp2_with fail
          refine (court_Due kb F n k _ HO.out.cu.ct (by omega)).mono ?_
          rintro y w1 ⟨v1, rfl, ho, hK, hc⟩
          have HO1 := Lib.hid (HO.out.dueC hK hc)
          have HV1 := Lib.hid ho; clear ho hK hc
          go_wp2_with fail
          refine (ref_CourtDue rb G k _ HO1.out.rc (by omega)).mono ?_
          rintro y w2 ⟨v2, rfl, ho, hK, hc⟩
          have HO2 := Lib.hid (HO1.out.dueR hK hc)
          have hv1 := ownsRow_other HV1.out (fun g hg => hK.block g (HV1.out.lt g hg).2 (fun hG => by have := HO.out.rc.lt g hG; have := (HV1.out.lt g hg).1; omega))
          obtain ⟨va, vc, rfl⟩ := own_shape hv1
          obtain ⟨ua, uc, rfl⟩ := own_shape ho
          have HT := Lib.hid (RdR.of_row caseE_len (by decide) hv1)
          have HU := Lib.hid (RdR.of_row caseE_len (by decide) ho)
          clear ho hK hc hv1 HV1 HO1
          have e1 : ((k.due.length : Int) != (k.due.length : Int)) = false := bne_self_eq_false _
          go_wp2_with fail
          go_loopg [11] k.due.length (fun g i wr2 => ∃ (j d : Nat), g + j = k.due.length ∧ i = .int .i64 j ∧ wr2 = w2.drewN d)
          case atStart => exact ⟨0, 0, rfl, rfl, rfl⟩
          case round =>
            obtain ⟨j, d, hgj, rfl, rfl⟩ := hrel
            have HGJ := Lib.hid hgj; clear hgj
            by_cases hjl : j < k.due.length
            · obtain ⟨y, hy⟩ : ∃ y, k.due[j]? = some y := ⟨_, List.getElem?_eq_getElem hjl⟩
              obtain ⟨b7, off7, rfl, hbl7, hcs7⟩ := HT.out.cells j y hy
              obtain ⟨b6, off6, rfl, hbl6, hcs6⟩ := HU.out.cells j y hy
              have t0 := hcs7 0 (by decide)
              have t1 := hcs7 1 (by decide)
              have t2 := hcs7 2 (by decide)
              have t3 := hcs7 3 (by decide)
              have r0 := hcs6 0 (by decide)
              have r1 := hcs6 1 (by decide)
              have r2 := hcs6 2 (by decide)
              have r3 := hcs6 3 (by decide)
              simp only [caseE, List.getElem?_cons_zero, List.getElem?_cons_succ, Nat.add_zero] at t0 t1 t2 t3 r0 r1 r2 r3
              have hq := fun w => ev_neq y.2 y.2 w
              rw [show (!decide (y.2 = y.2)) = false by simp] at hq
              unfold evV at hq
              have e2 : (y.1 != y.1) = false := bne_self_eq_false _
              have htc := HT.out.lc
              have huc := HU.out.lc
              clear hcs7 hcs6 hy
              generalize k.due.length = tl at *
              go_wp2_with fail
              go_quiet (fail)
              go_wp2_with fail
              have hgj := HGJ.out
              go_roundg (tl - (j + 1))
              case measure => omega
              case rel => exact ⟨j + 1, d + nq, by omega, by go_num, rfl⟩
            · have HO3 := Lib.hid (HO2.out.drewN d)
              clear HO2 HT HU
              go_wp2_with fail
              go_meet
              case rel => exact ⟨k.asked, HO3.out, rfl⟩
      case rest =>
        obtain ⟨k2, hO2, hk2⟩ := hcut
        have HO2 := Lib.hid hO2; clear hO2 c5 HO
        have hkl := HLN.out
        rw [← hk2] at hkl
        obtain ⟨⟨c0, c1, c2, c3, c4⟩, c5⟩ := HCELL.out _ HO2.out.cu.below
        have hn := HG.out.2.2
        have HLE := Lib.hid (KS.code_le k2 o e cy)
        go_wp2_with fail
        go_region_held3 (fun w' => w'.cell? ⟨bb, off + t * 6, none⟩ = some (.int .i64 o) ∧ w'.cell? ⟨bb, off + t * 6 + 1, none⟩ = some (.int .i64 e.b) ∧ w'.cell? ⟨bb, off + t * 6 + 2, none⟩ = some (.int .i64 e.c) ∧ w'.cell? ⟨bb, off + t * 6 + 3, none⟩ = some (.int .i64 e.n) ∧ w'.cell? ⟨bb, off + t * 6 + 4, none⟩ = some (.int .i64 cy)) (first | exact (HCELL.out _ H1.out.cu.below).1 | exact (HCELL.out _ H2.out.cu.below).1 | exact (HCELL.out _ H3.out.cu.below).1 | exact (HCELL.out _ HO2.out.cu.below).1)
          (first
            | (go_at_call 17; refine (court_Accuse A [1, 2, 3, 4, 5, 6, 7, 8, 9, 10] kb F n k2 o e cy _ (HO2.out.drewN 1).cu.ct (HS.out.below (HO2.out.drewN 1).cu.below).errs m2 m5 m10 HXW.out.2.1 (by omega) (by omega)).mono ?_; rintro y wa ⟨rfl, ka⟩; have H1 := Lib.hid ((HO2.out.drewN 1).ofC ka))
            | (go_at_call 20; refine (ref_CourtAccuse rb G k2 o e cy _ H1.out.rc (by omega)).mono ?_; rintro y wb ⟨rfl, kb2⟩; have H2 := Lib.hid (H1.out.ofR kb2))
            | (go_at_call 19; refine (law2_coded A _ HLE.out _ (HS.out.below H2.out.cu.below)).mono ?_; rintro y wc2 ⟨rfl, kc2⟩; have H3 := Lib.hid (H2.out.next kc2)))
        clear H1 H2 ka kb2 kc2 c0 c1 c2 c3 c4 c5
        obtain ⟨⟨c0, c1, c2, c3, c4⟩, c5⟩ := HCELL.out _ H3.out.cu.below
        go_wp2_with fail
        refine (court_Percent e.n _).mono ?_
        rintro y w9 ⟨rfl, rfl⟩
        have HKL := Lib.hid (KS.accuse_len k2 o e cy)
        have HG1 := Lib.hid HG.out.1
        have HG2 := Lib.hid (show (k2.accuse o e cy).2.L.length ≤ t + 1 by have := HKL.out; rw [hk2] at this; have := HG.out.2.1; omega)
        clear hkl HKL hk2
        by_cases hp : e.n.tmod 2 = 0
        · rw [show pct e.n = 5 from if_pos hp]
          go_wp2_with fail
          have hg0 := HG1.out
          go_roundg (len0 - (t + 1))
          case measure => omega
          case rel => exact ⟨t + 1, n + 1, _, _, _, H3.out, by omega, by go_num, HG2.out, by omega⟩
        · rw [show pct e.n = 50 from if_neg hp]
          go_wp2_with fail
          have hg0 := HG1.out
          go_roundg (len0 - (t + 1))
          case measure => omega
          case rel => exact ⟨t + 1, n + 1, _, _, _, H3.out, by omega, by go_num, HG2.out, by omega⟩
    · have hteq : t = len0 := by omega
      subst hteq
      have hne : ((t : Int) == (t : Int)) = true := beq_self_eq_true _
      clear hlt
      have hkl := HLN.out
      have hdu : k.due.length ≤ 100 := by unfold KS.due; rw [List.length_drop]; omega
      go_wp2_with fail
      refine (court_Due kb F n k _ HO.out.cu.ct (by omega)).mono ?_
      rintro y w1 ⟨v1, rfl, ho, hK, hc⟩
      have HO1 := Lib.hid (HO.out.dueC hK hc)
      have HV1 := Lib.hid ho; clear ho hK hc
      go_wp2_with fail
      refine (ref_CourtDue rb G k _ HO1.out.rc (by omega)).mono ?_
      rintro y w2 ⟨v2, rfl, ho, hK, hc⟩
      have HO2 := Lib.hid (HO1.out.dueR hK hc)
      have hv1 := ownsRow_other HV1.out (fun g hg => hK.block g (HV1.out.lt g hg).2 (fun hG => by have := HO.out.rc.lt g hG; have := (HV1.out.lt g hg).1; omega))
      obtain ⟨va, vc, rfl⟩ := own_shape hv1
      obtain ⟨ua, uc, rfl⟩ := own_shape ho
      have HT := Lib.hid (RdR.of_row caseE_len (by decide) hv1)
      have HU := Lib.hid (RdR.of_row caseE_len (by decide) ho)
      clear ho hK hc hv1 HV1 HO1
      have e1 : ((k.due.length : Int) != (k.due.length : Int)) = false := bne_self_eq_false _
      go_wp2_with fail
      go_loopg [11] k.due.length (fun g i wr2 => ∃ (j d : Nat), g + j = k.due.length ∧ i = .int .i64 j ∧ wr2 = w2.drewN d)
      case atStart => exact ⟨0, 0, rfl, rfl, rfl⟩
      case round =>
        obtain ⟨j, d, hgj, rfl, rfl⟩ := hrel
        have HGJ := Lib.hid hgj; clear hgj
        by_cases hjl : j < k.due.length
        · obtain ⟨y, hy⟩ : ∃ y, k.due[j]? = some y := ⟨_, List.getElem?_eq_getElem hjl⟩
          obtain ⟨b7, off7, rfl, hbl7, hcs7⟩ := HT.out.cells j y hy
          obtain ⟨b6, off6, rfl, hbl6, hcs6⟩ := HU.out.cells j y hy
          have t0 := hcs7 0 (by decide)
          have t1 := hcs7 1 (by decide)
          have t2 := hcs7 2 (by decide)
          have t3 := hcs7 3 (by decide)
          have r0 := hcs6 0 (by decide)
          have r1 := hcs6 1 (by decide)
          have r2 := hcs6 2 (by decide)
          have r3 := hcs6 3 (by decide)
          simp only [caseE, List.getElem?_cons_zero, List.getElem?_cons_succ, Nat.add_zero] at t0 t1 t2 t3 r0 r1 r2 r3
          have hq := fun w => ev_neq y.2 y.2 w
          rw [show (!decide (y.2 = y.2)) = false by simp] at hq
          unfold evV at hq
          have e2 : (y.1 != y.1) = false := bne_self_eq_false _
          have htc := HT.out.lc
          have huc := HU.out.lc
          clear hcs7 hcs6 hy
          generalize k.due.length = tl at *
          go_wp2_with fail
          go_quiet (fail)
          go_wp2_with fail
          have hgj := HGJ.out
          go_roundg (tl - (j + 1))
          case measure => omega
          case rel => exact ⟨j + 1, d + nq, by omega, by go_num, rfl⟩
        · have HO3 := Lib.hid (HO2.out.drewN d)
          clear HO2 HT HU
          by_cases hl0 : lost < 0
          · have s1 : shareA lost = 0 := if_pos hl0
            have s2 : shareB lost = 0 := if_pos hl0
            go_wp2_with fail
            refine (court_Share lost HM.out _).mono ?_
            rintro y w9 ⟨rfl, rfl⟩
            rw [s1, s2]
            clear s1 s2
            go_wp2_with fail
            go_ret
            exact ⟨rfl, HO3.out.cu.below⟩
          · have h0 : 0 ≤ lost := by omega
            have s1 : shareA lost = lost / 7 := if_neg hl0
            have s2 : shareB lost = lost - lost / 7 := if_neg hl0
            have e0 : lost.tdiv 7 = lost / 7 := Int.tdiv_eq_ediv_of_nonneg h0
            have b0 : 0 ≤ lost / 7 := Int.ediv_nonneg h0 (by decide)
            have b1 : lost / 7 ≤ lost := by omega
            have hm := HM.out
            go_wp2_with fail
            refine (court_Share lost HM.out _).mono ?_
            rintro y w9 ⟨rfl, rfl⟩
            rw [s1, s2]
            clear s1 s2 hl0
            generalize lost / 7 = m at *
            have q1 : (m == m) = true := beq_self_eq_true _
            have q2 : (lost - m == lost - m) = true := beq_self_eq_true _
            go_wp2_with fail
            go_ret
            exact ⟨rfl, HO3.out.cu.below⟩

set_option maxRecDepth 8000 in
theorem cases_all (A : Nat → Addr) (a0 : Option Addr) (len0 cap0 : Nat) (l0 : List Brt) (lost : Int) (w : World) (hS : Sents A w) (R0 : RdR Brt.enc 6 w a0 len0 cap0 l0) (hwf : ∀ x ∈ l0, x.wf) (hm : lost ≤ 9223372036854775807) :
    Calls Tryd.prog 4 #[.slice a0 len0 cap0, .int .i64 lost] w fun e w' => e = .returned (.bool true) ∧ Below w.heap.size w w' := by
  by_cases hl : len0 ≤ 100
  · exact cases_walk A a0 len0 cap0 l0 lost w hS R0 hwf hl hm
  · have HS := Lib.hid hS; clear hS hwf
    have hmx := Nat.le_trans R0.lc R0.cm
    have d1 : decide ((100 : Int) < (len0 : Int)) = true := by simp; omega
    clear R0
    go_enter Tryd.func4, Tryd.ntmps4
    go_wp2_with fail
    refine (law_judged A _ HS.out).mono ?_
    rintro e w0 ⟨rfl, hb0⟩
    go_wp2_with fail
    go_ret
    exact ⟨rfl, hb0⟩
end Go.Proofs.YtajnfkmkombajabDoor
