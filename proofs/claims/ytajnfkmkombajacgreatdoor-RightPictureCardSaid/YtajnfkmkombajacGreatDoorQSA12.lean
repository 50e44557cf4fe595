/-
  Contracts of the document's pool: Join, Take, Leave, Add, Slash.
  Contracts of the document's pool: Leave, Add, Slash; CopyPool.
  Plain: bends. No program in sight.
  Plain: what package issue reckons. No program in sight.
-/
import Derived.Test.YtajnfkmkombajacGreatDoorQSA11
import Derived.Deep.RegionWith
import Derived.Test.YtajnfkmkombajacGreatDoorQSA08
import Derived.Test.YtajnfkmkombajacGreatDoorQSA01
set_option linter.unusedVariables false
set_option linter.unusedSimpArgs false
set_option linter.unusedVariables false
namespace Go.Proofs.YtajnfkmkombajacGreatDoor
open Go.RowKit

theorem RPoolP.from {b sb cap k : Nat} {q : QS} {w w1 w' : World} (h : RPoolP b sb cap q w1 w') (hk : w.drewN k = w1) : RPoolP b sb cap q w w' := by
  subst hk; exact ⟨⟨h.1.os, h.1.tape, h.1.output, h.1.size, h.1.block⟩, h.2⟩

/-- the first tests fail: the ways -/
theorem plook_bad {o n : Int} (h : plookC o n ≠ 0) : ownB o = false ∨ (ownB o = true ∧ n < 1) ∨ (ownB o = true ∧ 1 ≤ n ∧ 1125899906842624 < n) := by
  cases ho : ownB o with
  | false => exact .inl rfl
  | true =>
    have : ¬ (1 ≤ n ∧ n ≤ 1125899906842624) := fun hn => h (plookC_zero.2 ⟨ho, hn⟩)
    have hw : n < 1 ∨ (1 ≤ n ∧ 1125899906842624 < n) := by omega
    rcases hw with hw | ⟨h1, h2⟩
    · exact .inr (.inl ⟨rfl, hw⟩)
    · exact .inr (.inr ⟨rfl, h1, h2⟩)

set_option maxRecDepth 8000 in
set_option maxHeartbeats 1000000 in
theorem refq_Join (b sb cap : Nat) (q : QS) (o n : Int) (w : World) (h : RPoolAt b sb cap q w) :
    Calls Tryz.prog 133 #[.pointer (some ⟨b, 0, none⟩), .int .i64 o, .int .i64 n] w fun e w' => e = .returned (.int .i64 (q.joinOp o n).1) ∧ RPoolP b sb cap (q.joinOp o n).2 w w' := by
  by_cases hl : plookC o n = 0
  · obtain ⟨ho, n0, n1⟩ := plookC_zero.1 hl
    obtain ⟨h0, h6⟩ := ownB_iff.1 ho
    obtain ⟨k, rfl⟩ := Int.eq_ofNat_of_zero_le h0
    have hk : k < 6 := by omega
    have c0 := h.c0
    have c1 := h.c1
    have ck := h.hc hk
    have fk := h.hf k
    have f0 := h.row.frozen 0
    have hne := h.ne
    have H := Lib.hid h
    have hA := Lib.hid (refq_All b sb cap q)
    have t0 := h.ok.t0; have t1 := h.ok.t1; have a0 := h.ok.all0; have a1 := h.ok.a1
    have bk := h.ok.at_bd (k : Int)
    have HO := Lib.hid (QS.joinOp_ok h.ok (k : Int) n)
    by_cases hz : 0 < q.all
    · by_cases ht : q.total = 0
      · have E := Lib.hid (join_gone hl hz ht)
        rw [ht] at c0
        clear h hl HO h0 h6 t0 t1
        go_enter Tryz.func133, Tryz.ntmps133
        go_wp2_with (first | (go_at_call 137; refine (ref_IsOwner _ _).mono ?_; rintro e w' ⟨rfl, rfl⟩) | (go_at_call 144; refine (hA.out _ H.out).mono ?_; rintro e w' ⟨rfl, rfl⟩))
        go_ret
        rw [E.out]
        exact ⟨rfl, RPoolP.refl H.out⟩
      · have ht' : (q.total == 0) = false := by simp [ht]
        by_cases hv : overOk n q.all q.total
        · have E0 := join_in hl hz ht hv
          have hs0 : 0 ≤ n * q.all / q.total := Int.ediv_nonneg (Int.mul_nonneg (by omega) (by omega)) (by omega)
          have hs1 := hv.2.2.2
          have HP := Lib.hid (ref_Product_yes hv)
          rw [(over_yes hv).2.1] at HP
          have ho2 := HO.out
          rw [E0] at ho2
          generalize n * q.all / q.total = s at *
          generalize overR n q.all q.total = r at *
          have HC := Lib.hid (h.changeP hk s n)
          clear h hl hv HO h0 h6
          generalize hx : q.at (k : Int) = x at *
          generalize hT : q.total = T at *
          generalize hU : q.all = U at *
          clear hx hT hU
          by_cases hb1 : T + n ≤ 1125899906842624
          · by_cases hb2 : U + s ≤ 1125899906842624
            · rw [if_neg (by omega)] at E0 ho2
              by_cases hsz : s = 0
              · rw [if_pos hsz] at E0
                have E := Lib.hid E0
                subst hsz
                clear E0 ho2
                go_enter Tryz.func133, Tryz.ntmps133
                go_wp2_with (first | (go_at_call 137; refine (ref_IsOwner _ _).mono ?_; rintro e w' ⟨rfl, rfl⟩) | (go_at_call 144; refine (hA.out _ H.out).mono ?_; rintro e w' ⟨rfl, rfl⟩) | (go_at_call 145; refine (HP.out _).mono ?_; rintro e w' ⟨rfl, rfl⟩))
                go_ret
                rw [E.out]
                exact ⟨rfl, RPoolP.refl H.out⟩
              · rw [if_neg hsz] at E0 ho2
                have hsz' : (s == 0) = false := by simp [hsz]
                have E := Lib.hid E0
                have HC2 := Lib.hid (HC.out ho2)
                clear E0 ho2 HC hsz
                go_enter Tryz.func133, Tryz.ntmps133
                go_wp2_with (first | (go_at_call 137; refine (ref_IsOwner _ _).mono ?_; rintro e w' ⟨rfl, rfl⟩) | (go_at_call 144; refine (hA.out _ H.out).mono ?_; rintro e w' ⟨rfl, rfl⟩) | (go_at_call 145; refine (HP.out _).mono ?_; rintro e w' ⟨rfl, rfl⟩))
                go_region
                go_wp2_with fail
                go_ret
                rw [E.out]
                exact ⟨rfl, HC2.out.drewN 1⟩
            · rw [if_pos (by omega)] at E0
              have E := Lib.hid E0
              have hd1 : decide (1125899906842624 < T + n) = false := decide_eq_false (by omega)
              have hd2 : decide (1125899906842624 < U + s) = true := decide_eq_true (by omega)
              clear E0 ho2 HC
              go_enter Tryz.func133, Tryz.ntmps133
              go_wp2_with (first | (go_at_call 137; refine (ref_IsOwner _ _).mono ?_; rintro e w' ⟨rfl, rfl⟩) | (go_at_call 144; refine (hA.out _ H.out).mono ?_; rintro e w' ⟨rfl, rfl⟩) | (go_at_call 145; refine (HP.out _).mono ?_; rintro e w' ⟨rfl, rfl⟩))
              go_ret
              rw [E.out]
              exact ⟨rfl, RPoolP.refl H.out⟩
          · rw [if_pos (by omega)] at E0
            have E := Lib.hid E0
            have hd1 : decide (1125899906842624 < T + n) = true := decide_eq_true (by omega)
            clear E0 ho2 HC
            go_enter Tryz.func133, Tryz.ntmps133
            go_wp2_with (first | (go_at_call 137; refine (ref_IsOwner _ _).mono ?_; rintro e w' ⟨rfl, rfl⟩) | (go_at_call 144; refine (hA.out _ H.out).mono ?_; rintro e w' ⟨rfl, rfl⟩) | (go_at_call 145; refine (HP.out _).mono ?_; rintro e w' ⟨rfl, rfl⟩))
            go_ret
            rw [E.out]
            exact ⟨rfl, RPoolP.refl H.out⟩
        · have E := Lib.hid (join_over hl hz ht hv)
          have HP := Lib.hid (ref_Product_no (a := n) (b := q.all) (c := q.total) ⟨by omega, n1⟩ ⟨a0, a1⟩ ⟨by omega, t1⟩ hv)
          clear h hl hv HO h0 h6
          go_enter Tryz.func133, Tryz.ntmps133
          go_wp2_with (first | (go_at_call 137; refine (ref_IsOwner _ _).mono ?_; rintro e w' ⟨rfl, rfl⟩) | (go_at_call 144; refine (hA.out _ H.out).mono ?_; rintro e w' ⟨rfl, rfl⟩) | (go_at_call 145; refine (HP.out _).mono ?_; rintro e w' ⟨rfl, rfl⟩))
          go_ret
          rw [E.out]
          exact ⟨rfl, RPoolP.refl H.out⟩
    · have hz0 : q.all = 0 := by omega
      have ht0 := h.ok.nil hz0
      have E := Lib.hid (join_first h.ok hl hz0)
      have ho2 := HO.out
      rw [E.out] at ho2
      have HC2 := Lib.hid (h.changeP hk n n ho2)
      have hnz : (n == 0) = false := by simp; omega
      clear h hl HO h0 h6 ho2 hz t0 t1 a0 a1
      have HZ := Lib.hid hz0; have HT := Lib.hid ht0
      rw [ht0] at c0
      rw [ht0, Int.zero_add] at HC2
      have hA0 : Hid (∀ w, RPoolAt b sb cap q w → Calls Tryz.prog 144 #[.pointer (some ⟨b, 0, none⟩)] w fun e w' => e = .returned (.int .i64 0) ∧ w = w') := (fun w hp => by rw [← HZ.out]; exact hA.out w hp : ∀ w, RPoolAt b sb cap q w → Calls Tryz.prog 144 #[.pointer (some ⟨b, 0, none⟩)] w fun e w' => e = .returned (.int .i64 0) ∧ w = w')
      rw [hz0] at bk
      clear hz0 ht0 hA
      generalize hx : q.at (k : Int) = x at *
      clear hx
      go_enter Tryz.func133, Tryz.ntmps133
      go_wp2_with (first | (go_at_call 137; refine (ref_IsOwner _ _).mono ?_; rintro e w' ⟨rfl, rfl⟩) | (go_at_call 144; refine (hA0.out _ H.out).mono ?_; rintro e w' ⟨rfl, rfl⟩))
      go_region
      go_wp2_with fail
      go_ret
      rw [E.out]
      exact ⟨rfl, HC2.out.drewN 1⟩
  · have E := Lib.hid (join_no hl (q := q))
    have H := Lib.hid h
    have hw := plook_bad hl
    clear h hl
    rcases hw with h1 | ⟨h1, h2⟩ | ⟨h1, h2, h3⟩
    all_goals
      go_enter Tryz.func133, Tryz.ntmps133
      go_wp2_with (go_at_call 137; refine (ref_IsOwner _ _).mono ?_; rintro e w' ⟨rfl, rfl⟩)
      go_ret
      rw [E.out]
      exact ⟨rfl, RPoolP.refl H.out⟩

set_option maxRecDepth 8000 in
set_option maxHeartbeats 1000000 in
theorem refq_Take (b sb cap : Nat) (q : QS) (o n : Int) (w : World) (h : RPoolAt b sb cap q w) :
    Calls Tryz.prog 135 #[.pointer (some ⟨b, 0, none⟩), .int .i64 o, .int .i64 n] w fun e w' => e = .returned (.int .i64 (q.takeOp o n).1) ∧ RPoolP b sb cap (q.takeOp o n).2 w w' := by
  by_cases hl : plookC o n = 0
  · obtain ⟨ho, n0, n1⟩ := plookC_zero.1 hl
    obtain ⟨h0, h6⟩ := ownB_iff.1 ho
    obtain ⟨k, rfl⟩ := Int.eq_ofNat_of_zero_le h0
    have hk : k < 6 := by omega
    have c0 := h.c0
    have c1 := h.c1
    have ck := h.hc hk
    have fk := h.hf k
    have f0 := h.row.frozen 0
    have hne := h.ne
    have H := Lib.hid h
    have hA := Lib.hid (refq_All b sb cap q)
    have hV := Lib.hid (refq_Value b sb cap q (k : Int))
    have t0 := h.ok.t0; have t1 := h.ok.t1; have a0 := h.ok.all0; have a1 := h.ok.a1
    have bk := h.ok.at_bd (k : Int)
    have bv := h.ok.value_bd (k : Int)
    by_cases hs : q.value k < n
    · have E := Lib.hid (take_short hl hs)
      clear h hl h0 h6
      generalize q.value (k : Int) = v at *
      go_enter Tryz.func135, Tryz.ntmps135
      go_wp2_with (first | (go_at_call 137; refine (ref_IsOwner _ _).mono ?_; rintro e w' ⟨rfl, rfl⟩) | (go_at_call 79; refine (hV.out _ H.out).mono ?_; rintro e w' ⟨rfl, d, rfl⟩))
      go_ret
      rw [E.out]
      exact ⟨rfl, (RPoolP.refl H.out).drewN _⟩
    · obtain ⟨u0, u1, u2, u3, u4, u5⟩ := h.ok.take_bd (o := (k : Int)) n0 (by omega)
      obtain ⟨hv, hup⟩ := up_parts u0
      have HP := Lib.hid (ref_Product_yes hv)
      have hr0 : 0 ≤ n * q.all % q.total := Int.emod_nonneg _ (by omega)
      rw [(over_yes hv).2.1, (over_yes hv).2.2] at HP
      have hs0 : 0 ≤ n * q.all / q.total := Int.ediv_nonneg (Int.mul_nonneg (by omega) (by omega)) (by omega)
      have hs1 := hv.2.2.2
      have ET := Lib.hid (fun hx => take_in (q := q) (o := (k : Int)) (n := n) hl hs hx)
      have ES := Lib.hid (fun hx => take_all (q := q) (o := (k : Int)) (n := n) hl hs hx)
      have HO := Lib.hid (QS.takeOp_ok h.ok (k : Int) n)
      clear h hl h0 h6 hv u0 u3
      generalize n * q.all / q.total = s at *
      generalize n * q.all % q.total = r at *
      generalize upN n q.all q.total = u at *
      have hv2 : n ≤ q.value k := by omega
      generalize q.value (k : Int) = v at *
      have hk6 := hk
      by_cases hr : r = 0
      · rw [if_pos hr, Int.add_zero] at hup
        subst hup hr
        by_cases hall : u = q.all ∧ n < q.total
        · have E := Lib.hid (ES.out hall)
          obtain ⟨ha, hb⟩ := hall
          have hsa : (u == q.all) = true := by simp [ha]
          clear ET ES HO ha
          go_enter Tryz.func135, Tryz.ntmps135
          go_wp2_with (first | (go_at_call 137; refine (ref_IsOwner _ _).mono ?_; rintro e w' ⟨rfl, rfl⟩) | (go_at_call 79; refine (hV.out _ H.out).mono ?_; rintro e w1 ⟨rfl, d, hk⟩; have H1 : Hid (RPoolAt b sb cap q w1) := (by rw [← hk]; exact H.out.drewN d : RPoolAt b sb cap q w1); have c0 := H1.out.c0; have c1 := H1.out.c1; have ck := H1.out.hc hk6; have fk := H1.out.hf k; have f0 := H1.out.row.frozen 0; have HK := Lib.hid hk; clear hk))
          go_quiet ((first | (go_at_call 144; exact Calls.quiet_of_same ((hA.out _ (H1.out.drewN _)).mono fun _ _ ⟨a, b⟩ => ⟨a, b.symm⟩)) | (go_at_call 145; exact Calls.quiet_of_same ((HP.out _).mono fun _ _ ⟨a, b⟩ => ⟨a, b.symm⟩))))
          go_wp2_with (go_at_call 144; refine (hA.out _ (H1.out.drewN _)).mono ?_; rintro e w' ⟨rfl, rfl⟩)
          go_ret
          rw [E.out]
          exact ⟨rfl, ((RPoolP.refl H1.out).drewN _).from HK.out⟩
        · have E0 := ET.out hall
          have ho2 := HO.out
          rw [E0] at ho2
          have E := Lib.hid E0
          have HC0 := Lib.hid (fun wx (hp : RPoolAt b sb cap q wx) => hp.changeP hk6 (-u) (-n) ho2)
          simp only [← Int.sub_eq_add_neg] at HC0
          clear ET ES HO E0 ho2
          by_cases ha : u = q.all
          · have hsa : (u == q.all) = true := by simp [ha]
            have hb : decide (n < q.total) = false := decide_eq_false (fun h => hall ⟨ha, h⟩)
            clear hall
            have HAl := Lib.hid ha; clear ha
            go_enter Tryz.func135, Tryz.ntmps135
            go_wp2_with (first | (go_at_call 137; refine (ref_IsOwner _ _).mono ?_; rintro e w' ⟨rfl, rfl⟩) | (go_at_call 79; refine (hV.out _ H.out).mono ?_; rintro e w1 ⟨rfl, d, hk⟩; have H1 : Hid (RPoolAt b sb cap q w1) := (by rw [← hk]; exact H.out.drewN d : RPoolAt b sb cap q w1); have c0 := H1.out.c0; have c1 := H1.out.c1; have ck := H1.out.hc hk6; have fk := H1.out.hf k; have f0 := H1.out.row.frozen 0; have HK := Lib.hid hk; clear hk))
            go_quiet ((first | (go_at_call 144; exact Calls.quiet_of_same ((hA.out _ (H1.out.drewN _)).mono fun _ _ ⟨a, b⟩ => ⟨a, b.symm⟩)) | (go_at_call 145; exact Calls.quiet_of_same ((HP.out _).mono fun _ _ ⟨a, b⟩ => ⟨a, b.symm⟩))))
            go_wp2_with (go_at_call 144; refine (hA.out _ (H1.out.drewN _)).mono ?_; rintro e w' ⟨rfl, rfl⟩)
            have HC := Lib.hid (HC0.out _ (H1.out.drewN nq)); clear HC0
            go_region
            go_wp2_with fail
            go_ret
            rw [E.out]
            exact ⟨rfl, ((HC.out.drewN 1).from (w := w1) (k := nq) rfl).from HK.out⟩
          · have hsa : (u == q.all) = false := by simp [ha]
            clear hall ha
            go_enter Tryz.func135, Tryz.ntmps135
            go_wp2_with (first | (go_at_call 137; refine (ref_IsOwner _ _).mono ?_; rintro e w' ⟨rfl, rfl⟩) | (go_at_call 79; refine (hV.out _ H.out).mono ?_; rintro e w1 ⟨rfl, d, hk⟩; have H1 : Hid (RPoolAt b sb cap q w1) := (by rw [← hk]; exact H.out.drewN d : RPoolAt b sb cap q w1); have c0 := H1.out.c0; have c1 := H1.out.c1; have ck := H1.out.hc hk6; have fk := H1.out.hf k; have f0 := H1.out.row.frozen 0; have HK := Lib.hid hk; clear hk))
            go_quiet ((first | (go_at_call 144; exact Calls.quiet_of_same ((hA.out _ (H1.out.drewN _)).mono fun _ _ ⟨a, b⟩ => ⟨a, b.symm⟩)) | (go_at_call 145; exact Calls.quiet_of_same ((HP.out _).mono fun _ _ ⟨a, b⟩ => ⟨a, b.symm⟩))))
            go_wp2_with (go_at_call 144; refine (hA.out _ (H1.out.drewN _)).mono ?_; rintro e w' ⟨rfl, rfl⟩)
            have HC := Lib.hid (HC0.out _ (H1.out.drewN nq)); clear HC0
            go_region
            go_wp2_with fail
            go_ret
            rw [E.out]
            exact ⟨rfl, ((HC.out.drewN 1).from (w := w1) (k := nq) rfl).from HK.out⟩
      · rw [if_neg hr] at hup
        have hr1 : decide (0 < r) = true := decide_eq_true (by omega)
        have HUp := Lib.hid hup
        have hs1u : s + 1 = u := hup.symm
        clear hup hr
        by_cases hall : u = q.all ∧ n < q.total
        · have E := Lib.hid (ES.out hall)
          obtain ⟨ha, hb⟩ := hall
          have hsa : (u == q.all) = true := by simp [ha]
          clear ET ES HO ha
          go_enter Tryz.func135, Tryz.ntmps135
          go_wp2_with (first | (go_at_call 137; refine (ref_IsOwner _ _).mono ?_; rintro e w' ⟨rfl, rfl⟩) | (go_at_call 79; refine (hV.out _ H.out).mono ?_; rintro e w1 ⟨rfl, d, hk⟩; have H1 : Hid (RPoolAt b sb cap q w1) := (by rw [← hk]; exact H.out.drewN d : RPoolAt b sb cap q w1); have c0 := H1.out.c0; have c1 := H1.out.c1; have ck := H1.out.hc hk6; have fk := H1.out.hf k; have f0 := H1.out.row.frozen 0; have HK := Lib.hid hk; clear hk))
          go_quiet ((first | (go_at_call 144; exact Calls.quiet_of_same ((hA.out _ (H1.out.drewN _)).mono fun _ _ ⟨a, b⟩ => ⟨a, b.symm⟩)) | (go_at_call 145; exact Calls.quiet_of_same ((HP.out _).mono fun _ _ ⟨a, b⟩ => ⟨a, b.symm⟩))))
          go_wp2_with (go_at_call 144; refine (hA.out _ (H1.out.drewN _)).mono ?_; rintro e w' ⟨rfl, rfl⟩)
          go_ret
          rw [E.out]
          exact ⟨rfl, ((RPoolP.refl H1.out).drewN _).from HK.out⟩
        · have E0 := ET.out hall
          have ho2 := HO.out
          rw [E0] at ho2
          have E := Lib.hid E0
          have HC0 := Lib.hid (fun wx (hp : RPoolAt b sb cap q wx) => hp.changeP hk6 (-u) (-n) ho2)
          simp only [← Int.sub_eq_add_neg] at HC0
          clear ET ES HO E0 ho2
          by_cases ha : u = q.all
          · have hsa : (u == q.all) = true := by simp [ha]
            have hb : decide (n < q.total) = false := decide_eq_false (fun h => hall ⟨ha, h⟩)
            clear hall
            have HAl := Lib.hid ha; clear ha
            go_enter Tryz.func135, Tryz.ntmps135
            go_wp2_with (first | (go_at_call 137; refine (ref_IsOwner _ _).mono ?_; rintro e w' ⟨rfl, rfl⟩) | (go_at_call 79; refine (hV.out _ H.out).mono ?_; rintro e w1 ⟨rfl, d, hk⟩; have H1 : Hid (RPoolAt b sb cap q w1) := (by rw [← hk]; exact H.out.drewN d : RPoolAt b sb cap q w1); have c0 := H1.out.c0; have c1 := H1.out.c1; have ck := H1.out.hc hk6; have fk := H1.out.hf k; have f0 := H1.out.row.frozen 0; have HK := Lib.hid hk; clear hk))
            go_quiet ((first | (go_at_call 144; exact Calls.quiet_of_same ((hA.out _ (H1.out.drewN _)).mono fun _ _ ⟨a, b⟩ => ⟨a, b.symm⟩)) | (go_at_call 145; exact Calls.quiet_of_same ((HP.out _).mono fun _ _ ⟨a, b⟩ => ⟨a, b.symm⟩))))
            go_wp2_with (go_at_call 144; refine (hA.out _ (H1.out.drewN _)).mono ?_; rintro e w' ⟨rfl, rfl⟩)
            have HC := Lib.hid (HC0.out _ (H1.out.drewN nq)); clear HC0
            go_region
            go_wp2_with fail
            go_ret
            rw [E.out]
            exact ⟨rfl, ((HC.out.drewN 1).from (w := w1) (k := nq) rfl).from HK.out⟩
          · have hsa : (u == q.all) = false := by simp [ha]
            clear hall ha
            go_enter Tryz.func135, Tryz.ntmps135
            go_wp2_with (first | (go_at_call 137; refine (ref_IsOwner _ _).mono ?_; rintro e w' ⟨rfl, rfl⟩) | (go_at_call 79; refine (hV.out _ H.out).mono ?_; rintro e w1 ⟨rfl, d, hk⟩; have H1 : Hid (RPoolAt b sb cap q w1) := (by rw [← hk]; exact H.out.drewN d : RPoolAt b sb cap q w1); have c0 := H1.out.c0; have c1 := H1.out.c1; have ck := H1.out.hc hk6; have fk := H1.out.hf k; have f0 := H1.out.row.frozen 0; have HK := Lib.hid hk; clear hk))
            go_quiet ((first | (go_at_call 144; exact Calls.quiet_of_same ((hA.out _ (H1.out.drewN _)).mono fun _ _ ⟨a, b⟩ => ⟨a, b.symm⟩)) | (go_at_call 145; exact Calls.quiet_of_same ((HP.out _).mono fun _ _ ⟨a, b⟩ => ⟨a, b.symm⟩))))
            go_wp2_with (go_at_call 144; refine (hA.out _ (H1.out.drewN _)).mono ?_; rintro e w' ⟨rfl, rfl⟩)
            have HC := Lib.hid (HC0.out _ (H1.out.drewN nq)); clear HC0
            go_region
            go_wp2_with fail
            go_ret
            rw [E.out]
            exact ⟨rfl, ((HC.out.drewN 1).from (w := w1) (k := nq) rfl).from HK.out⟩
  · have E := Lib.hid (take_no hl (q := q))
    have H := Lib.hid h
    have hw := plook_bad hl
    clear h hl
    rcases hw with h1 | ⟨h1, h2⟩ | ⟨h1, h2, h3⟩
    all_goals
      go_enter Tryz.func135, Tryz.ntmps135
      go_wp2_with (go_at_call 137; refine (ref_IsOwner _ _).mono ?_; rintro e w' ⟨rfl, rfl⟩)
      go_ret
      rw [E.out]
      exact ⟨rfl, RPoolP.refl H.out⟩
end Go.Proofs.YtajnfkmkombajacGreatDoor
namespace Go.Proofs.YtajnfkmkombajacGreatDoor
open Go.RowKit

set_option maxRecDepth 8000 in
set_option maxHeartbeats 1000000 in
theorem refq_Leave (b sb cap : Nat) (q : QS) (o : Int) (w : World) (h : RPoolAt b sb cap q w) :
    Calls Tryz.prog 138 #[.pointer (some ⟨b, 0, none⟩), .int .i64 o] w fun e w' => e = .returned (.tuple #[.int .i64 (q.leaveOp o).1, .int .i64 (q.leaveOp o).2.1]) ∧ RPoolP b sb cap (q.leaveOp o).2.2 w w' := by
  by_cases ho : ownB o = true
  · obtain ⟨h0, h6⟩ := ownB_iff.1 ho
    obtain ⟨k, rfl⟩ := Int.eq_ofNat_of_zero_le h0
    have hk : k < 6 := by omega
    have hk6 := hk
    have c0 := h.c0
    have c1 := h.c1
    have ck := h.hc hk
    have H := Lib.hid h
    by_cases hz : q.at k = 0
    · have E := Lib.hid (show q.leaveOp k = (0, 4, q) by unfold QS.leaveOp; rw [if_neg (by rw [ho]; simp), if_pos hz])
      rw [hz] at ck
      clear h hz h0 h6
      go_enter Tryz.func138, Tryz.ntmps138
      go_wp2_with (go_at_call 137; refine (ref_IsOwner _ _).mono ?_; rintro e w' ⟨rfl, rfl⟩)
      go_ret2
      rw [E.out]
      exact ⟨rfl, RPoolP.refl H.out⟩
    · have hz' : (q.at k == 0) = false := by simp [hz]
      have hj : q.leaveOp k = (q.value k, 0, q.change k (-q.at k) (-q.value k)) := by unfold QS.leaveOp; rw [if_neg (by rw [ho]; simp), if_neg hz]
      have E := Lib.hid hj
      have hok := QS.leaveOp_ok h.ok (k : Int)
      rw [hj] at hok
      have hV := Lib.hid (refq_Value b sb cap q (k : Int))
      have bv := h.ok.value_bd (k : Int)
      have t0 := h.ok.t0; have t1 := h.ok.t1
      have HC0 := Lib.hid (fun wx (hp : RPoolAt b sb cap q wx) => hp.changeP hk6 (-q.at k) (-q.value k) hok)
      rw [show q.at k + -q.at k = 0 by omega] at HC0
      simp only [← Int.sub_eq_add_neg] at HC0
      clear h hj hok hz h0 h6
      go_enter Tryz.func138, Tryz.ntmps138
      go_wp2_with (first | (go_at_call 137; refine (ref_IsOwner _ _).mono ?_; rintro e w' ⟨rfl, rfl⟩) | (go_at_call 79; refine (hV.out _ H.out).mono ?_; rintro e w1 ⟨rfl, d, hk⟩; have H1 : Hid (RPoolAt b sb cap q w1) := (by rw [← hk]; exact H.out.drewN d : RPoolAt b sb cap q w1); have c0 := H1.out.c0; have c1 := H1.out.c1; have ck := H1.out.hc hk6; have fk := H1.out.hf k; have f0 := H1.out.row.frozen 0; have hne := H1.out.ne; have HK := Lib.hid hk; clear hk; have HC := Lib.hid (HC0.out _ H1.out)))
      go_ret2
      rw [E.out]
      first
        | exact ⟨rfl, HC.out.from HK.out⟩
        | exact ⟨rfl, (HC.out.drewN 1).from HK.out⟩
  · have ho' : ownB o = false := by simpa using ho
    have E := Lib.hid (show q.leaveOp o = (0, 2, q) by unfold QS.leaveOp; rw [if_pos ho'])
    have H := Lib.hid h
    clear h ho
    go_enter Tryz.func138, Tryz.ntmps138
    go_wp2_with (go_at_call 137; refine (ref_IsOwner _ _).mono ?_; rintro e w' ⟨rfl, rfl⟩)
    go_ret2
    rw [E.out]
    exact ⟨rfl, RPoolP.refl H.out⟩

set_option maxRecDepth 8000 in
theorem refq_Add (b sb cap : Nat) (q : QS) (n : Int) (w : World) (h : RPoolAt b sb cap q w) :
    Calls Tryz.prog 140 #[.pointer (some ⟨b, 0, none⟩), .int .i64 n] w fun e w' => e = .returned (.int .i64 (q.addOp n).1) ∧ RPoolP b sb cap (q.addOp n).2 w w' := by
  have c0 := h.c0
  have f0 := h.row.frozen 0
  have H := Lib.hid h
  have t0 := h.ok.t0
  have t1 := h.ok.t1
  have hA := Lib.hid (refq_All b sb cap q)
  have HOK := Lib.hid (QS.addOp_ok h.ok n)
  by_cases hn : amtB n = true
  · obtain ⟨n0, n1⟩ := amtB_iff.1 hn
    by_cases hz : q.all = 0
    · have E1 := Lib.hid (show q.addOp n = (4, q) by unfold QS.addOp; rw [if_neg (by rw [hn]; simp), if_pos hz])
      have hz' : (q.all == 0) = true := by simp [hz]
      clear h HOK hz
      go_enter Tryz.func140, Tryz.ntmps140
      go_wp2_with (first | (go_at_call 195; refine (refb_IsAmount _ _).mono ?_; rintro e w' ⟨rfl, rfl⟩) | (go_at_call 144; refine (hA.out _ H.out).mono ?_; rintro e w' ⟨rfl, rfl⟩))
      go_ret
      rw [E1.out]
      exact ⟨rfl, RPoolP.refl H.out⟩
    · have hz' : (q.all == 0) = false := by simp [hz]
      by_cases ht : q.total + n ≤ 1125899906842624
      · have hj : q.addOp n = (0, ⟨q.total + n, q.all, q.sh⟩) := by unfold QS.addOp; rw [if_neg (by rw [hn]; simp), if_neg hz, if_neg (by omega)]
        have E1 := Lib.hid hj
        have hok := HOK.out; rw [hj] at hok
        have HS := Lib.hid (H.out.totalP _ hok)
        clear h HOK hok hj hz
        generalize q.total = T at *
        have hd : decide (1125899906842624 < T + n) = false := decide_eq_false (by omega)
        go_enter Tryz.func140, Tryz.ntmps140
        go_wp2_with (first | (go_at_call 195; refine (refb_IsAmount _ _).mono ?_; rintro e w' ⟨rfl, rfl⟩) | (go_at_call 144; refine (hA.out _ H.out).mono ?_; rintro e w' ⟨rfl, rfl⟩))
        go_ret
        rw [E1.out]
        exact ⟨rfl, HS.out⟩
      · have E1 := Lib.hid (show q.addOp n = (2, q) by unfold QS.addOp; rw [if_neg (by rw [hn]; simp), if_neg hz, if_pos (by omega)])
        clear h HOK hz
        generalize q.total = T at *
        have hd : decide (1125899906842624 < T + n) = true := decide_eq_true (by omega)
        go_enter Tryz.func140, Tryz.ntmps140
        go_wp2_with (first | (go_at_call 195; refine (refb_IsAmount _ _).mono ?_; rintro e w' ⟨rfl, rfl⟩) | (go_at_call 144; refine (hA.out _ H.out).mono ?_; rintro e w' ⟨rfl, rfl⟩))
        go_ret
        rw [E1.out]
        exact ⟨rfl, RPoolP.refl H.out⟩
  · have hn' : amtB n = false := by simpa using hn
    have E1 := Lib.hid (show q.addOp n = (2, q) by unfold QS.addOp; rw [if_pos hn'])
    clear h HOK hn
    go_enter Tryz.func140, Tryz.ntmps140
    go_wp2_with (go_at_call 195; refine (refb_IsAmount _ _).mono ?_; rintro e w' ⟨rfl, rfl⟩)
    go_ret
    rw [E1.out]
    exact ⟨rfl, RPoolP.refl H.out⟩

set_option maxRecDepth 8000 in
theorem refq_Slash (b sb cap : Nat) (q : QS) (n : Int) (w : World) (h : RPoolAt b sb cap q w) :
    Calls Tryz.prog 143 #[.pointer (some ⟨b, 0, none⟩), .int .i64 n] w fun e w' => e = .returned (.tuple #[.int .i64 (q.slashOp n).1, .int .i64 (q.slashOp n).2.1]) ∧ RPoolP b sb cap (q.slashOp n).2.2 w w' := by
  have c0 := h.c0
  have f0 := h.row.frozen 0
  have H := Lib.hid h
  have t0 := h.ok.t0
  have t1 := h.ok.t1
  have HOK := Lib.hid (QS.slashOp_ok h.ok n)
  by_cases hn : n < 0 ∨ 100 < n
  · have E1 := Lib.hid (show q.slashOp n = (0, 2, q) by unfold QS.slashOp; rw [if_pos hn])
    have hcases : n < 0 ∨ (0 ≤ n ∧ 100 < n) := by omega
    clear h HOK hn
    rcases hcases with d1 | ⟨d1, d2⟩
    all_goals
      go_enter Tryz.func143, Tryz.ntmps143
      go_wp2
      go_ret2
      rw [E1.out]
      exact ⟨rfl, RPoolP.refl H.out⟩
  · have hj : q.slashOp n = (q.total * n / 100, 0, ⟨q.total - q.total * n / 100, q.all, q.sh⟩) := by unfold QS.slashOp; rw [if_neg hn]
    have E1 := Lib.hid hj
    have hok := HOK.out; rw [hj] at hok
    have n0 : 0 ≤ n := by omega
    have n1 : n ≤ 100 := by omega
    have hb := slash_bd t0 n0 n1
    have HS := Lib.hid (H.out.totalP _ hok)
    obtain ⟨s1, ⟨s2, s3⟩, ⟨s4, s5⟩, ⟨s6, s7⟩, ⟨s8, s9⟩, s10, s11⟩ := slash_doc t0 t1 n0 n1
    have e1 : q.total.tdiv 100 = q.total / 100 := Int.tdiv_eq_ediv_of_nonneg t0
    have e2 : q.total.tmod 100 = q.total % 100 := Int.tmod_eq_emod_of_nonneg t0
    have e3 : (q.total % 100 * n).tdiv 100 = q.total % 100 * n / 100 := Int.tdiv_eq_ediv_of_nonneg s8
    have HSum := Lib.hid s1
    clear h HOK hok hj hn s1
    obtain ⟨z, hz⟩ : ∃ z, q.total / 100 * n = z := ⟨_, rfl⟩
    obtain ⟨v, hv⟩ : ∃ v, q.total % 100 * n = v := ⟨_, rfl⟩
    obtain ⟨y, hy⟩ : ∃ y, v / 100 = y := ⟨_, rfl⟩
    rw [hv] at e3 s8 s9 s10 s11 HSum
    rw [hy] at e3 s10 s11 HSum
    rw [hz] at s6 s7 HSum
    have hyy : y ≤ v := by omega
    clear hy
    generalize q.total * n / 100 = x at *
    generalize q.total / 100 = u at *
    generalize q.total % 100 = t at *
    generalize q.total = T at *
    have hxt : z + y ≤ T := by have := HSum.out; omega
    have w1 : wrap64 z = z := IntWalk.wrap64_in _ ⟨by omega, by omega⟩
    have w2 : wrap64 v = v := IntWalk.wrap64_in _ ⟨by omega, by omega⟩
    have w3 : wrap64 y = y := IntWalk.wrap64_in _ ⟨by omega, by omega⟩
    go_enter Tryz.func143, Tryz.ntmps143
    go_wp2_with fail
    go_ret2
    rw [E1.out]
    have hs := HSum.out
    subst hs
    exact ⟨rfl, HS.out⟩
end Go.Proofs.YtajnfkmkombajacGreatDoor
namespace Go.Proofs.YtajnfkmkombajacGreatDoor
open Go.RowKit

/-- The slice value reads, in w, as these points. -/
structure RdP (w : World) (ao : Option Addr) (len cap : Nat) (l : List (Int × Int)) : Prop where
  size : l.length = len
  lc : len ≤ cap
  cm : cap ≤ maxLen
  nul : ao = none → cap = 0
  wf : ∀ p ∈ l, (-9223372036854775808 ≤ p.1 ∧ p.1 ≤ 9223372036854775807) ∧ (-9223372036854775808 ≤ p.2 ∧ p.2 ≤ 9223372036854775807)
  cells : ∀ i, i < len → ∃ b off, ao = some ⟨b, off, none⟩ ∧ w.cell? ⟨b, off + i * 2, none⟩ = some (.int .i64 (l.getD i (0, 0)).1) ∧ w.cell? ⟨b, off + i * 2 + 1, none⟩ = some (.int .i64 (l.getD i (0, 0)).2)

theorem RdP.split {w : World} {ao : Option Addr} {len cap : Nat} {l : List (Int × Int)} (h : RdP w ao len cap l) :
    (len = 0 ∧ l = []) ∨ (0 < len ∧ ∃ b off, ao = some ⟨b, off, none⟩ ∧ b < w.heap.size ∧ ∀ i, i < len → w.cell? ⟨b, off + i * 2, none⟩ = some (.int .i64 (l.getD i (0, 0)).1) ∧ w.cell? ⟨b, off + i * 2 + 1, none⟩ = some (.int .i64 (l.getD i (0, 0)).2)) := by
  rcases Nat.eq_zero_or_pos len with h0 | h0
  · exact .inl ⟨h0, List.eq_nil_of_length_eq_zero (by rw [h.size, h0])⟩
  · obtain ⟨b, off, ha, hc, _⟩ := h.cells 0 h0
    refine .inr ⟨h0, b, off, ha, World.block_lt_of_cell? w _ hc, fun i hi => ?_⟩
    obtain ⟨b', off', ha', hc'⟩ := h.cells i hi
    rw [ha] at ha'; cases ha'; exact hc'

theorem RdP.below {w w' : World} {ao : Option Addr} {len cap : Nat} {l : List (Int × Int)} (h : RdP w ao len cap l) (hb : Below w.heap.size w w') : RdP w' ao len cap l := by
  refine ⟨h.size, h.lc, h.cm, h.nul, h.wf, fun i hi => ?_⟩
  obtain ⟨b, off, ha, hc, hd⟩ := h.cells i hi
  exact ⟨b, off, ha, by rw [hb.cell (p := ⟨b, off + i * 2, none⟩) (World.block_lt_of_cell? w _ hc)]; exact hc, by rw [hb.cell (p := ⟨b, off + i * 2 + 1, none⟩) (World.block_lt_of_cell? w _ hd)]; exact hd⟩

/-- is it no number of a point? -/
def ptBad (p : Int × Int) : Prop := p.1 < 0 ∨ 1000000 < p.1 ∨ p.2 < 0 ∨ 1000000 < p.2
instance (p : Int × Int) : Decidable (ptBad p) := by unfold ptBad; infer_instance

/-- an error's number, and its place (-1: bare), of the points from place i on -/
def chk : Nat → Option Int → List (Int × Int) → Nat × Int
  | _, _, [] => (0, -1)
  | i, none, p :: r => if ptBad p then (2, i) else chk (i + 1) (some p.1) r
  | i, some x, p :: r => if ptBad p then (2, i) else if p.1 ≤ x then (3, i) else chk (i + 1) (some p.1) r

/-- .. of a whole bend -/
def checkF (l : List (Int × Int)) : Nat × Int := if l.length < 2 ∨ 8 < l.length then (3, -1) else chk 0 none l

/-- a right bend from a point on, at x -/
def bendGo : List (Int × Int) → Int → Int
  | [], _ => 0
  | [p], _ => p.2
  | p :: q :: r, x => if x < q.1 then p.2 + (q.2 - p.2) * (x - p.1) / (q.1 - p.1) else bendGo (q :: r) x

/-- a right bend at x -/
def bendV (l : List (Int × Int)) (x : Int) : Int := if x < (l.getD 0 (0, 0)).1 then (l.getD 0 (0, 0)).2 else bendGo l x
/-- an error's number and place of a bend at x; and its value -/
def bendF (l : List (Int × Int)) (x : Int) : Nat × Int := if (checkF l).1 ≠ 0 then checkF l else if x < 0 ∨ 1000000 < x then (2, -1) else (0, -1)

/-- what is right of a bend -/
structure BendOk (l : List (Int × Int)) : Prop where
  two : 2 ≤ l.length
  eight : l.length ≤ 8
  good : ∀ i, i < l.length → ¬ ptBad (l.getD i (0, 0))
  rise : ∀ i, i + 1 < l.length → (l.getD i (0, 0)).1 < (l.getD (i + 1) (0, 0)).1

theorem chk_ok : ∀ (r : List (Int × Int)) (i : Nat) (o : Option Int), (chk i o r).1 = 0 → (∀ j, j < r.length → ¬ ptBad (r.getD j (0, 0))) ∧ (∀ j, j + 1 < r.length → (r.getD j (0, 0)).1 < (r.getD (j + 1) (0, 0)).1) ∧ ∀ x, o = some x → 0 < r.length → x < (r.getD 0 (0, 0)).1
  | [], _, _, _ => ⟨fun j h => by simp at h, fun j h => by simp at h, fun x _ h => by simp at h⟩
  | p :: r, i, o, h => by
    have key : ¬ ptBad p ∧ (chk (i + 1) (some p.1) r).1 = 0 ∧ ∀ x, o = some x → x < p.1 := by
      cases o with
      | none =>
        simp only [chk] at h
        split at h
        · cases h
        · rename_i hb; exact ⟨hb, h, fun x hx => by cases hx⟩
      | some x =>
        simp only [chk] at h
        split at h
        · cases h
        · rename_i hb
          split at h
          · cases h
          · rename_i hx; exact ⟨hb, h, fun y hy => by cases hy; omega⟩
    obtain ⟨k1, k2, k3⟩ := key
    obtain ⟨a, b, c⟩ := chk_ok r (i + 1) (some p.1) k2
    refine ⟨fun j hj => ?_, fun j hj => ?_, fun x hx _ => by simpa using k3 x hx⟩
    · cases j with
      | zero => simpa using k1
      | succ j => simpa using a j (by simpa using hj)
    · cases j with
      | zero => simpa using c p.1 rfl (by simpa using hj)
      | succ j => simpa using b j (by simpa using hj)

theorem check_ok {l : List (Int × Int)} (h : (checkF l).1 = 0) : BendOk l := by
  unfold checkF at h
  split at h
  · cases h
  · rename_i hn
    obtain ⟨a, b, _⟩ := chk_ok l 0 none h
    exact ⟨by omega, by omega, a, b⟩
/-- the X ahead of place k -/
def prevX (l : List (Int × Int)) (k : Nat) : Option Int := if k = 0 then none else some (l.getD (k - 1) (0, 0)).1
theorem drop_get {l : List (Int × Int)} {k : Nat} (h : k < l.length) : l.drop k = l.getD k (0, 0) :: l.drop (k + 1) := by
  rw [List.drop_eq_getElem_cons h]; simp [List.getD_eq_getElem?_getD, List.getElem?_eq_getElem h]
theorem chk_bad {l : List (Int × Int)} {k : Nat} (h : k < l.length) (hb : ptBad (l.getD k (0, 0))) : chk k (prevX l k) (l.drop k) = (2, (k : Int)) := by
  rw [drop_get h]; unfold prevX; split <;> simp only [chk, if_pos hb]
theorem chk_shape {l : List (Int × Int)} {k : Nat} (h : k < l.length) (hb : ¬ ptBad (l.getD k (0, 0))) (hk : 0 < k) (hx : (l.getD k (0, 0)).1 ≤ (l.getD (k - 1) (0, 0)).1) : chk k (prevX l k) (l.drop k) = (3, (k : Int)) := by
  rw [drop_get h]; unfold prevX; rw [if_neg (by omega)]; simp only [chk, if_neg hb, if_pos hx]
theorem chk_next {l : List (Int × Int)} {k : Nat} (h : k < l.length) (hb : ¬ ptBad (l.getD k (0, 0))) (hx : k = 0 ∨ (l.getD (k - 1) (0, 0)).1 < (l.getD k (0, 0)).1) : chk k (prevX l k) (l.drop k) = chk (k + 1) (prevX l (k + 1)) (l.drop (k + 1)) := by
  rw [drop_get h]
  have e : prevX l (k + 1) = some (l.getD k (0, 0)).1 := by unfold prevX; rw [if_neg (by omega)]; rfl
  rw [e]
  unfold prevX
  split
  · simp only [chk, if_neg hb]
  · rename_i h0
    have : ¬ (l.getD k (0, 0)).1 ≤ (l.getD (k - 1) (0, 0)).1 := by rcases hx with h | h <;> omega
    simp only [chk, if_neg hb, if_neg this]
theorem chk_done {l : List (Int × Int)} {k : Nat} (h : l.length ≤ k) : chk k (prevX l k) (l.drop k) = (0, -1) := by
  rw [List.drop_eq_nil_of_le h]; unfold prevX; split <;> rfl
theorem checkF_in {l : List (Int × Int)} (h : ¬ (l.length < 2 ∨ 8 < l.length)) : checkF l = chk 0 (prevX l 0) (l.drop 0) := by
  unfold checkF; rw [if_neg h]; rfl
theorem checkF_out {l : List (Int × Int)} (h : l.length < 2 ∨ 8 < l.length) : checkF l = (3, -1) := by
  unfold checkF; rw [if_pos h]
theorem ptBad_cases {x y : Int} : x < 0 ∨ (0 ≤ x ∧ 1000000 < x) ∨ (0 ≤ x ∧ x ≤ 1000000 ∧ y < 0) ∨ (0 ≤ x ∧ x ≤ 1000000 ∧ 0 ≤ y ∧ 1000000 < y) ∨ (0 ≤ x ∧ x ≤ 1000000 ∧ 0 ≤ y ∧ y ≤ 1000000) := by omega
theorem chk_zero : ∀ (r : List (Int × Int)) (i : Nat) (o : Option Int), (chk i o r).1 = 0 → chk i o r = (0, -1)
  | [], _, _, _ => rfl
  | p :: r, i, none, h => by
    simp only [chk] at h ⊢
    split at h
    · cases h
    · rename_i hb; rw [if_neg hb]; exact chk_zero r _ _ h
  | p :: r, i, some x, h => by
    simp only [chk] at h ⊢
    split at h
    · cases h
    · rename_i hb
      rw [if_neg hb]
      split at h
      · cases h
      · rename_i hx; rw [if_neg hx]; exact chk_zero r _ _ h
theorem checkF_zero {l : List (Int × Int)} (h : (checkF l).1 = 0) : checkF l = (0, -1) := by
  unfold checkF at h ⊢
  split at h
  · cases h
  · rename_i hn; rw [if_neg hn]; exact chk_zero _ _ _ h

theorem bendGo_step {l : List (Int × Int)} {k : Nat} {x : Int} (h : k + 1 < l.length) (hx : ¬ x < (l.getD (k + 1) (0, 0)).1) : bendGo (l.drop k) x = bendGo (l.drop (k + 1)) x := by
  rw [drop_get (by omega : k < l.length), drop_get h]
  simp only [bendGo, if_neg hx]
theorem bendGo_here {l : List (Int × Int)} {k : Nat} {x : Int} (h : k + 1 < l.length) (hx : x < (l.getD (k + 1) (0, 0)).1) :
    bendGo (l.drop k) x = (l.getD k (0, 0)).2 + ((l.getD (k + 1) (0, 0)).2 - (l.getD k (0, 0)).2) * (x - (l.getD k (0, 0)).1) / ((l.getD (k + 1) (0, 0)).1 - (l.getD k (0, 0)).1) := by
  rw [drop_get (by omega : k < l.length), drop_get h]
  simp only [bendGo, if_pos hx]
theorem bendGo_last {l : List (Int × Int)} {k : Nat} {x : Int} (h : k + 1 = l.length) : bendGo (l.drop k) x = (l.getD k (0, 0)).2 := by
  rw [drop_get (by omega : k < l.length), List.drop_eq_nil_of_le (by omega)]
  rfl
theorem bend_mul {p q : Int × Int} {x : Int} (hp : ¬ ptBad p) (hq : ¬ ptBad q) (h0 : 0 ≤ x) (h1 : x ≤ 1000000) :
    -1000000000000 ≤ (q.2 - p.2) * (x - p.1) ∧ (q.2 - p.2) * (x - p.1) ≤ 1000000000000 := by
  unfold ptBad at hp hq
  have h : ((q.2 - p.2) * (x - p.1)).natAbs ≤ 1000000 * 1000000 := by
    rw [Int.natAbs_mul]; exact Nat.mul_le_mul (by omega) (by omega)
  omega
end Go.Proofs.YtajnfkmkombajacGreatDoor
namespace Go.Proofs.YtajnfkmkombajacGreatDoor
open Go.RowKit

/-- the bend of rates -/
def rateL : List (Int × Int) := [(0, 40000), (250000, 20000), (500000, 10000), (1000000, 5000)]
theorem rateL_right : (checkF rateL).1 = 0 := by decide
theorem rateL_at {x : Int} (h0 : 0 ≤ x) (h1 : x ≤ 1000000) : bendV rateL x =
    if x < 250000 then 40000 + (-20000) * x / 250000 else if x < 500000 then 20000 + (-10000) * (x - 250000) / 250000 else if x < 1000000 then 10000 + (-5000) * (x - 500000) / 500000 else 5000 := by
  unfold bendV
  rw [if_neg (by simp [rateL]; omega)]
  simp only [rateL, bendGo]
  simp only [show (20000 : Int) - 40000 = -20000 from rfl, show (10000 : Int) - 20000 = -10000 from rfl, show (5000 : Int) - 10000 = -5000 from rfl, Int.sub_zero, show (500000 : Int) - 250000 = 250000 from rfl, show (1000000 : Int) - 500000 = 500000 from rfl]
theorem rateL_bounds {x : Int} (h0 : 0 ≤ x) (h1 : x ≤ 1000000) : 5000 ≤ bendV rateL x ∧ bendV rateL x ≤ 40000 := by
  rw [rateL_at h0 h1]; split
  · omega
  · split
    · omega
    · split <;> omega
theorem rateL_falls {x y : Int} (h0 : 0 ≤ x) (hxy : x ≤ y) (h1 : y ≤ 1000000) : bendV rateL y ≤ bendV rateL x := by
  rw [rateL_at h0 (by omega), rateL_at (by omega) h1]
  by_cases a1 : x < 250000 <;> by_cases a2 : x < 500000 <;> by_cases a3 : x < 1000000 <;> by_cases b1 : y < 250000 <;> by_cases b2 : y < 500000 <;> by_cases b3 : y < 1000000 <;> simp only [a1, a2, a3, b1, b2, b3, if_true, if_false] <;> omega

/-- may it be a ratio of these? -/
def ratioOk (s p : Int) : Prop := 0 ≤ s ∧ s ≤ p ∧ 1 ≤ p ∧ p ≤ 1125899906842624
instance (s p : Int) : Decidable (ratioOk s p) := by unfold ratioOk; infer_instance
def ratioN (s p : Int) : Int := if ratioOk s p then s * 1000000 / p else 0
def ratioC (s p : Int) : Nat := if ratioOk s p then 0 else 2
theorem ratio_over {s p : Int} (h : ratioOk s p) : overOk s 1000000 p := by
  obtain ⟨h0, h1, h2, h3⟩ := h
  have : s * 1000000 / p ≤ 1000000 := by
    have h := Int.ediv_le_ediv (show 0 < p by omega) (show s * 1000000 ≤ 1000000 * p by omega)
    rwa [Int.mul_ediv_cancel _ (show p ≠ 0 by omega)] at h
  exact ⟨by omega, by omega, by omega, by omega⟩
theorem ratio_in {s p : Int} (h : ratioOk s p) : 0 ≤ ratioN s p ∧ ratioN s p ≤ 1000000 := by
  unfold ratioN; rw [if_pos h]
  obtain ⟨h0, h1, h2, h3⟩ := h
  have : s * 1000000 / p ≤ 1000000 := by
    have h := Int.ediv_le_ediv (show 0 < p by omega) (show s * 1000000 ≤ 1000000 * p by omega)
    rwa [Int.mul_ediv_cancel _ (show p ≠ 0 by omega)] at h
  exact ⟨Int.ediv_nonneg (by omega) (by omega), this⟩
theorem ratio_rises {s t p : Int} (h : ratioOk s p) (k : ratioOk t p) (hst : s ≤ t) : ratioN s p ≤ ratioN t p := by
  unfold ratioN; rw [if_pos h, if_pos k]
  exact Int.ediv_le_ediv (by have := h.2.2.1; omega) (by omega)

def rateOk (r b : Int) : Prop := 0 ≤ r ∧ r ≤ 1000000 ∧ 0 ≤ b ∧ b ≤ 5000
instance (s p : Int) : Decidable (rateOk s p) := by unfold rateOk; infer_instance
def rateC (r b : Int) : Nat := if rateOk r b then 0 else 2
def rateN (r b : Int) : Int := if rateOk r b then bendV rateL r + b else 0
def bonusN (b r : Int) : Int := if rateOk r b then (if r < 480000 then min 5000 (b + 100) else if 520000 < r then max 0 (b - 100) else b) else 0

def rewardOk (s r : Int) : Prop := (0 ≤ s ∧ s ≤ 1125899906842624) ∧ 0 ≤ r ∧ r ≤ 1000000
instance (s p : Int) : Decidable (rewardOk s p) := by unfold rewardOk; infer_instance
def rewardC (s r : Int) : Nat := if rewardOk s r then 0 else 2
def rewardN (s r : Int) : Int := if rewardOk s r then s * r / 1000000 / 4 else 0
theorem reward_over {s r : Int} (h : rewardOk s r) : overOk s r 1000000 := by
  obtain ⟨⟨h0, h1⟩, h2, h3⟩ := h
  have h4 : s * r ≤ s * 1000000 := Int.mul_le_mul_of_nonneg_left h3 h0
  exact ⟨by omega, by omega, by omega, by omega⟩
theorem reward_in {s r : Int} (h : rewardOk s r) : 0 ≤ rewardN s r ∧ rewardN s r ≤ s := by
  have h4 : s * r ≤ s * 1000000 := Int.mul_le_mul_of_nonneg_left h.2.2 h.1.1
  have h5 : 0 ≤ s * r := Int.mul_nonneg h.1.1 h.2.1
  unfold rewardN; rw [if_pos h]
  omega
end Go.Proofs.YtajnfkmkombajacGreatDoor
