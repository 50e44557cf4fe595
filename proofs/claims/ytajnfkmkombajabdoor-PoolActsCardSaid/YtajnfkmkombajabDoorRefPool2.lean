/- Contracts of the document's pool: Join, Take, Leave, Add, Slash. -/
import Derived.Test.YtajnfkmkombajabDoorRefPool
import Derived.Deep.RegionWith
set_option linter.unusedVariables false
set_option linter.unusedSimpArgs false
namespace Go.Proofs.YtajnfkmkombajabDoor
open Go.RowKit

theorem RPoolP.from {b sb cap k : Nat} {q : QS} {w w1 w' : World} (h : RPoolP b sb cap q w1 w') (hk : w.drewN k = w1) : RPoolP b sb cap q w w' := by
  subst hk; exact ⟨⟨h.1.os, h.1.tape, h.1.output, h.1.size, h.1.block⟩, h.2⟩

/-- the first tests fail: the ways -/
theorem plook_bad {o n : Int} (h : plookC o n ≠ 0) : ownB o = false ∨ (ownB o = true ∧ n < 1) ∨ (ownB o = true ∧ 1 ≤ n ∧ 1125899906842624 < n) := by
  cases ho : ownB o with
  | false => exact .inl rfl
  | true =>
    have : ¬ (1 ≤ n ∧ n ≤ 1125899906842624) := fun hn => h (plookC_zero.2 ⟨ho, hn⟩)
    have hw : n < 1 ∨ (1 ≤ n ∧ 1125899906842624 < n) := by omega
    rcases hw with hw | ⟨h1, h2⟩
    · exact .inr (.inl ⟨rfl, hw⟩)
    · exact .inr (.inr ⟨rfl, h1, h2⟩)

set_option maxRecDepth 8000 in
set_option maxHeartbeats 1000000 in
theorem refq_Join (b sb cap : Nat) (q : QS) (o n : Int) (w : World) (h : RPoolAt b sb cap q w) :
    Calls Tryd.prog 82 #[.pointer (some ⟨b, 0, none⟩), .int .i64 o, .int .i64 n] w fun e w' => e = .returned (.int .i64 (q.joinOp o n).1) ∧ RPoolP b sb cap (q.joinOp o n).2 w w' := by
  by_cases hl : plookC o n = 0
  · obtain ⟨ho, n0, n1⟩ := plookC_zero.1 hl
    obtain ⟨h0, h6⟩ := ownB_iff.1 ho
    obtain ⟨k, rfl⟩ := Int.eq_ofNat_of_zero_le h0
    have hk : k < 6 := by omega
    have c0 := h.c0
    have c1 := h.c1
    have ck := h.hc hk
    have fk := h.hf k
    have f0 := h.row.frozen 0
    have hne := h.ne
    have H := Lib.hid h
    have hA := Lib.hid (refq_All b sb cap q)
    have t0 := h.ok.t0; have t1 := h.ok.t1; have a0 := h.ok.all0; have a1 := h.ok.a1
    have bk := h.ok.at_bd (k : Int)
    have HO := Lib.hid (QS.joinOp_ok h.ok (k : Int) n)
    by_cases hz : 0 < q.all
    · by_cases ht : q.total = 0
      · have E := Lib.hid (join_gone hl hz ht)
        rw [ht] at c0
        clear h hl HO h0 h6 t0 t1
        go_enter Tryd.func82, Tryd.ntmps82
        go_wp2_with (first | (go_at_call 113; refine (ref_IsOwner _ _).mono ?_; rintro e w' ⟨rfl, rfl⟩) | (go_at_call 93; refine (hA.out _ H.out).mono ?_; rintro e w' ⟨rfl, rfl⟩))
        go_ret
        rw [E.out]
        exact ⟨rfl, RPoolP.refl H.out⟩
      · have ht' : (q.total == 0) = false := by simp [ht]
        by_cases hv : overOk n q.all q.total
        · have E0 := join_in hl hz ht hv
          have hs0 : 0 ≤ n * q.all / q.total := Int.ediv_nonneg (Int.mul_nonneg (by omega) (by omega)) (by omega)
          have hs1 := hv.2.2.2
          have HP := Lib.hid (ref_Product_yes hv)
          rw [(over_yes hv).2.1] at HP
          have ho2 := HO.out
          rw [E0] at ho2
          generalize n * q.all / q.total = s at *
          generalize overR n q.all q.total = r at *
          have HC := Lib.hid (h.changeP hk s n)
          clear h hl hv HO h0 h6
          generalize hx : q.at (k : Int) = x at *
          generalize hT : q.total = T at *
          generalize hU : q.all = U at *
          clear hx hT hU
          by_cases hb1 : T + n ≤ 1125899906842624
          · by_cases hb2 : U + s ≤ 1125899906842624
            · rw [if_neg (by omega)] at E0 ho2
              by_cases hsz : s = 0
              · rw [if_pos hsz] at E0
                have E := Lib.hid E0
                subst hsz
                clear E0 ho2
                go_enter Tryd.func82, Tryd.ntmps82
                go_wp2_with (first | (go_at_call 113; refine (ref_IsOwner _ _).mono ?_; rintro e w' ⟨rfl, rfl⟩) | (go_at_call 93; refine (hA.out _ H.out).mono ?_; rintro e w' ⟨rfl, rfl⟩) | (go_at_call 124; refine (HP.out _).mono ?_; rintro e w' ⟨rfl, rfl⟩))
                go_ret
                rw [E.out]
                exact ⟨rfl, RPoolP.refl H.out⟩
              · rw [if_neg hsz] at E0 ho2
                have hsz' : (s == 0) = false := by simp [hsz]
                have E := Lib.hid E0
                have HC2 := Lib.hid (HC.out ho2)
                clear E0 ho2 HC hsz
                go_enter Tryd.func82, Tryd.ntmps82
                go_wp2_with (first | (go_at_call 113; refine (ref_IsOwner _ _).mono ?_; rintro e w' ⟨rfl, rfl⟩) | (go_at_call 93; refine (hA.out _ H.out).mono ?_; rintro e w' ⟨rfl, rfl⟩) | (go_at_call 124; refine (HP.out _).mono ?_; rintro e w' ⟨rfl, rfl⟩))
                go_region
                go_wp2_with fail
                go_ret
                rw [E.out]
                exact ⟨rfl, HC2.out.drewN 1⟩
            · rw [if_pos (by omega)] at E0
              have E := Lib.hid E0
              have hd1 : decide (1125899906842624 < T + n) = false := decide_eq_false (by omega)
              have hd2 : decide (1125899906842624 < U + s) = true := decide_eq_true (by omega)
              clear E0 ho2 HC
              go_enter Tryd.func82, Tryd.ntmps82
              go_wp2_with (first | (go_at_call 113; refine (ref_IsOwner _ _).mono ?_; rintro e w' ⟨rfl, rfl⟩) | (go_at_call 93; refine (hA.out _ H.out).mono ?_; rintro e w' ⟨rfl, rfl⟩) | (go_at_call 124; refine (HP.out _).mono ?_; rintro e w' ⟨rfl, rfl⟩))
              go_ret
              rw [E.out]
              exact ⟨rfl, RPoolP.refl H.out⟩
          · rw [if_pos (by omega)] at E0
            have E := Lib.hid E0
            have hd1 : decide (1125899906842624 < T + n) = true := decide_eq_true (by omega)
            clear E0 ho2 HC
            go_enter Tryd.func82, Tryd.ntmps82
            go_wp2_with (first | (go_at_call 113; refine (ref_IsOwner _ _).mono ?_; rintro e w' ⟨rfl, rfl⟩) | (go_at_call 93; refine (hA.out _ H.out).mono ?_; rintro e w' ⟨rfl, rfl⟩) | (go_at_call 124; refine (HP.out _).mono ?_; rintro e w' ⟨rfl, rfl⟩))
            go_ret
            rw [E.out]
            exact ⟨rfl, RPoolP.refl H.out⟩
        · have E := Lib.hid (join_over hl hz ht hv)
          have HP := Lib.hid (ref_Product_no (a := n) (b := q.all) (c := q.total) ⟨by omega, n1⟩ ⟨a0, a1⟩ ⟨by omega, t1⟩ hv)
          clear h hl hv HO h0 h6
          go_enter Tryd.func82, Tryd.ntmps82
          go_wp2_with (first | (go_at_call 113; refine (ref_IsOwner _ _).mono ?_; rintro e w' ⟨rfl, rfl⟩) | (go_at_call 93; refine (hA.out _ H.out).mono ?_; rintro e w' ⟨rfl, rfl⟩) | (go_at_call 124; refine (HP.out _).mono ?_; rintro e w' ⟨rfl, rfl⟩))
          go_ret
          rw [E.out]
          exact ⟨rfl, RPoolP.refl H.out⟩
    · have hz0 : q.all = 0 := by omega
      have ht0 := h.ok.nil hz0
      have E := Lib.hid (join_first h.ok hl hz0)
      have ho2 := HO.out
      rw [E.out] at ho2
      have HC2 := Lib.hid (h.changeP hk n n ho2)
      have hnz : (n == 0) = false := by simp; omega
      clear h hl HO h0 h6 ho2 hz t0 t1 a0 a1
      have HZ := Lib.hid hz0; have HT := Lib.hid ht0
      rw [ht0] at c0
      rw [ht0, Int.zero_add] at HC2
      have hA0 : Hid (∀ w, RPoolAt b sb cap q w → Calls Tryd.prog 93 #[.pointer (some ⟨b, 0, none⟩)] w fun e w' => e = .returned (.int .i64 0) ∧ w = w') := (fun w hp => by rw [← HZ.out]; exact hA.out w hp : ∀ w, RPoolAt b sb cap q w → Calls Tryd.prog 93 #[.pointer (some ⟨b, 0, none⟩)] w fun e w' => e = .returned (.int .i64 0) ∧ w = w')
      rw [hz0] at bk
      clear hz0 ht0 hA
      generalize hx : q.at (k : Int) = x at *
      clear hx
      go_enter Tryd.func82, Tryd.ntmps82
      go_wp2_with (first | (go_at_call 113; refine (ref_IsOwner _ _).mono ?_; rintro e w' ⟨rfl, rfl⟩) | (go_at_call 93; refine (hA0.out _ H.out).mono ?_; rintro e w' ⟨rfl, rfl⟩))
      go_region
      go_wp2_with fail
      go_ret
      rw [E.out]
      exact ⟨rfl, HC2.out.drewN 1⟩
  · have E := Lib.hid (join_no hl (q := q))
    have H := Lib.hid h
    have hw := plook_bad hl
    clear h hl
    rcases hw with h1 | ⟨h1, h2⟩ | ⟨h1, h2, h3⟩
    all_goals
      go_enter Tryd.func82, Tryd.ntmps82
      go_wp2_with (go_at_call 113; refine (ref_IsOwner _ _).mono ?_; rintro e w' ⟨rfl, rfl⟩)
      go_ret
      rw [E.out]
      exact ⟨rfl, RPoolP.refl H.out⟩

set_option maxRecDepth 8000 in
set_option maxHeartbeats 1000000 in
theorem refq_Take (b sb cap : Nat) (q : QS) (o n : Int) (w : World) (h : RPoolAt b sb cap q w) :
    Calls Tryd.prog 84 #[.pointer (some ⟨b, 0, none⟩), .int .i64 o, .int .i64 n] w fun e w' => e = .returned (.int .i64 (q.takeOp o n).1) ∧ RPoolP b sb cap (q.takeOp o n).2 w w' := by
  by_cases hl : plookC o n = 0
  · obtain ⟨ho, n0, n1⟩ := plookC_zero.1 hl
    obtain ⟨h0, h6⟩ := ownB_iff.1 ho
    obtain ⟨k, rfl⟩ := Int.eq_ofNat_of_zero_le h0
    have hk : k < 6 := by omega
    have c0 := h.c0
    have c1 := h.c1
    have ck := h.hc hk
    have fk := h.hf k
    have f0 := h.row.frozen 0
    have hne := h.ne
    have H := Lib.hid h
    have hA := Lib.hid (refq_All b sb cap q)
    have hV := Lib.hid (refq_Value b sb cap q (k : Int))
    have t0 := h.ok.t0; have t1 := h.ok.t1; have a0 := h.ok.all0; have a1 := h.ok.a1
    have bk := h.ok.at_bd (k : Int)
    have bv := h.ok.value_bd (k : Int)
    by_cases hs : q.value k < n
    · have E := Lib.hid (take_short hl hs)
      clear h hl h0 h6
      generalize q.value (k : Int) = v at *
      go_enter Tryd.func84, Tryd.ntmps84
      go_wp2_with (first | (go_at_call 113; refine (ref_IsOwner _ _).mono ?_; rintro e w' ⟨rfl, rfl⟩) | (go_at_call 97; refine (hV.out _ H.out).mono ?_; rintro e w' ⟨rfl, d, rfl⟩))
      go_ret
      rw [E.out]
      exact ⟨rfl, (RPoolP.refl H.out).drewN _⟩
    · obtain ⟨u0, u1, u2, u3, u4, u5⟩ := h.ok.take_bd (o := (k : Int)) n0 (by omega)
      obtain ⟨hv, hup⟩ := up_parts u0
      have HP := Lib.hid (ref_Product_yes hv)
      have hr0 : 0 ≤ n * q.all % q.total := Int.emod_nonneg _ (by omega)
      rw [(over_yes hv).2.1, (over_yes hv).2.2] at HP
      have hs0 : 0 ≤ n * q.all / q.total := Int.ediv_nonneg (Int.mul_nonneg (by omega) (by omega)) (by omega)
      have hs1 := hv.2.2.2
      have ET := Lib.hid (fun hx => take_in (q := q) (o := (k : Int)) (n := n) hl hs hx)
      have ES := Lib.hid (fun hx => take_all (q := q) (o := (k : Int)) (n := n) hl hs hx)
      have HO := Lib.hid (QS.takeOp_ok h.ok (k : Int) n)
      clear h hl h0 h6 hv u0 u3
      generalize n * q.all / q.total = s at *
      generalize n * q.all % q.total = r at *
      generalize upN n q.all q.total = u at *
      have hv2 : n ≤ q.value k := by omega
      generalize q.value (k : Int) = v at *
      have hk6 := hk
      by_cases hr : r = 0
      · rw [if_pos hr, Int.add_zero] at hup
        subst hup hr
        by_cases hall : u = q.all ∧ n < q.total
        · have E := Lib.hid (ES.out hall)
          obtain ⟨ha, hb⟩ := hall
          have hsa : (u == q.all) = true := by simp [ha]
          clear ET ES HO ha
          go_enter Tryd.func84, Tryd.ntmps84
          go_wp2_with (first | (go_at_call 113; refine (ref_IsOwner _ _).mono ?_; rintro e w' ⟨rfl, rfl⟩) | (go_at_call 97; refine (hV.out _ H.out).mono ?_; rintro e w1 ⟨rfl, d, hk⟩; have H1 : Hid (RPoolAt b sb cap q w1) := (by rw [← hk]; exact H.out.drewN d : RPoolAt b sb cap q w1); have c0 := H1.out.c0; have c1 := H1.out.c1; have ck := H1.out.hc hk6; have fk := H1.out.hf k; have f0 := H1.out.row.frozen 0; have HK := Lib.hid hk; clear hk))
          go_quiet ((first | (go_at_call 93; exact Calls.quiet_of_same ((hA.out _ (H1.out.drewN _)).mono fun _ _ ⟨a, b⟩ => ⟨a, b.symm⟩)) | (go_at_call 124; exact Calls.quiet_of_same ((HP.out _).mono fun _ _ ⟨a, b⟩ => ⟨a, b.symm⟩))))
          go_wp2_with (go_at_call 93; refine (hA.out _ (H1.out.drewN _)).mono ?_; rintro e w' ⟨rfl, rfl⟩)
          go_ret
          rw [E.out]
          exact ⟨rfl, ((RPoolP.refl H1.out).drewN _).from HK.out⟩
        · have E0 := ET.out hall
          have ho2 := HO.out
          rw [E0] at ho2
          have E := Lib.hid E0
          have HC0 := Lib.hid (fun wx (hp : RPoolAt b sb cap q wx) => hp.changeP hk6 (-u) (-n) ho2)
          simp only [← Int.sub_eq_add_neg] at HC0
          clear ET ES HO E0 ho2
          by_cases ha : u = q.all
          · have hsa : (u == q.all) = true := by simp [ha]
            have hb : decide (n < q.total) = false := decide_eq_false (fun h => hall ⟨ha, h⟩)
            clear hall
            have HAl := Lib.hid ha; clear ha
            go_enter Tryd.func84, Tryd.ntmps84
            go_wp2_with (first | (go_at_call 113; refine (ref_IsOwner _ _).mono ?_; rintro e w' ⟨rfl, rfl⟩) | (go_at_call 97; refine (hV.out _ H.out).mono ?_; rintro e w1 ⟨rfl, d, hk⟩; have H1 : Hid (RPoolAt b sb cap q w1) := (by rw [← hk]; exact H.out.drewN d : RPoolAt b sb cap q w1); have c0 := H1.out.c0; have c1 := H1.out.c1; have ck := H1.out.hc hk6; have fk := H1.out.hf k; have f0 := H1.out.row.frozen 0; have HK := Lib.hid hk; clear hk))
            go_quiet ((first | (go_at_call 93; exact Calls.quiet_of_same ((hA.out _ (H1.out.drewN _)).mono fun _ _ ⟨a, b⟩ => ⟨a, b.symm⟩)) | (go_at_call 124; exact Calls.quiet_of_same ((HP.out _).mono fun _ _ ⟨a, b⟩ => ⟨a, b.symm⟩))))
            go_wp2_with (go_at_call 93; refine (hA.out _ (H1.out.drewN _)).mono ?_; rintro e w' ⟨rfl, rfl⟩)
            have HC := Lib.hid (HC0.out _ (H1.out.drewN nq)); clear HC0
            go_region
            go_wp2_with fail
            go_ret
            rw [E.out]
            exact ⟨rfl, ((HC.out.drewN 1).from (w := w1) (k := nq) rfl).from HK.out⟩
          · have hsa : (u == q.all) = false := by simp [ha]
            clear hall ha
            go_enter Tryd.func84, Tryd.ntmps84
            go_wp2_with (first | (go_at_call 113; refine (ref_IsOwner _ _).mono ?_; rintro e w' ⟨rfl, rfl⟩) | (go_at_call 97; refine (hV.out _ H.out).mono ?_; rintro e w1 ⟨rfl, d, hk⟩; have H1 : Hid (RPoolAt b sb cap q w1) := (by rw [← hk]; exact H.out.drewN d : RPoolAt b sb cap q w1); have c0 := H1.out.c0; have c1 := H1.out.c1; have ck := H1.out.hc hk6; have fk := H1.out.hf k; have f0 := H1.out.row.frozen 0; have HK := Lib.hid hk; clear hk))
            go_quiet ((first | (go_at_call 93; exact Calls.quiet_of_same ((hA.out _ (H1.out.drewN _)).mono fun _ _ ⟨a, b⟩ => ⟨a, b.symm⟩)) | (go_at_call 124; exact Calls.quiet_of_same ((HP.out _).mono fun _ _ ⟨a, b⟩ => ⟨a, b.symm⟩))))
            go_wp2_with (go_at_call 93; refine (hA.out _ (H1.out.drewN _)).mono ?_; rintro e w' ⟨rfl, rfl⟩)
            have HC := Lib.hid (HC0.out _ (H1.out.drewN nq)); clear HC0
            go_region
            go_wp2_with fail
            go_ret
            rw [E.out]
            exact ⟨rfl, ((HC.out.drewN 1).from (w := w1) (k := nq) rfl).from HK.out⟩
      · rw [if_neg hr] at hup
        have hr1 : decide (0 < r) = true := decide_eq_true (by omega)
        have HUp := Lib.hid hup
        have hs1u : s + 1 = u := hup.symm
        clear hup hr
        by_cases hall : u = q.all ∧ n < q.total
        · have E := Lib.hid (ES.out hall)
          obtain ⟨ha, hb⟩ := hall
          have hsa : (u == q.all) = true := by simp [ha]
          clear ET ES HO ha
          go_enter Tryd.func84, Tryd.ntmps84
          go_wp2_with (first | (go_at_call 113; refine (ref_IsOwner _ _).mono ?_; rintro e w' ⟨rfl, rfl⟩) | (go_at_call 97; refine (hV.out _ H.out).mono ?_; rintro e w1 ⟨rfl, d, hk⟩; have H1 : Hid (RPoolAt b sb cap q w1) := (by rw [← hk]; exact H.out.drewN d : RPoolAt b sb cap q w1); have c0 := H1.out.c0; have c1 := H1.out.c1; have ck := H1.out.hc hk6; have fk := H1.out.hf k; have f0 := H1.out.row.frozen 0; have HK := Lib.hid hk; clear hk))
          go_quiet ((first | (go_at_call 93; exact Calls.quiet_of_same ((hA.out _ (H1.out.drewN _)).mono fun _ _ ⟨a, b⟩ => ⟨a, b.symm⟩)) | (go_at_call 124; exact Calls.quiet_of_same ((HP.out _).mono fun _ _ ⟨a, b⟩ => ⟨a, b.symm⟩))))
          go_wp2_with (go_at_call 93; refine (hA.out _ (H1.out.drewN _)).mono ?_; rintro e w' ⟨rfl, rfl⟩)
          go_ret
          rw [E.out]
          exact ⟨rfl, ((RPoolP.refl H1.out).drewN _).from HK.out⟩
        · have E0 := ET.out hall
          have ho2 := HO.out
          rw [E0] at ho2
          have E := Lib.hid E0
          have HC0 := Lib.hid (fun wx (hp : RPoolAt b sb cap q wx) => hp.changeP hk6 (-u) (-n) ho2)
          simp only [← Int.sub_eq_add_neg] at HC0
          clear ET ES HO E0 ho2
          by_cases ha : u = q.all
          · have hsa : (u == q.all) = true := by simp [ha]
            have hb : decide (n < q.total) = false := decide_eq_false (fun h => hall ⟨ha, h⟩)
            clear hall
            have HAl := Lib.hid ha; clear ha
            go_enter Tryd.func84, Tryd.ntmps84
            go_wp2_with (first | (go_at_call 113; refine (ref_IsOwner _ _).mono ?_; rintro e w' ⟨rfl, rfl⟩) | (go_at_call 97; refine (hV.out _ H.out).mono ?_; rintro e w1 ⟨rfl, d, hk⟩; have H1 : Hid (RPoolAt b sb cap q w1) := (by rw [← hk]; exact H.out.drewN d : RPoolAt b sb cap q w1); have c0 := H1.out.c0; have c1 := H1.out.c1; have ck := H1.out.hc hk6; have fk := H1.out.hf k; have f0 := H1.out.row.frozen 0; have HK := Lib.hid hk; clear hk))
            go_quiet ((first | (go_at_call 93; exact Calls.quiet_of_same ((hA.out _ (H1.out.drewN _)).mono fun _ _ ⟨a, b⟩ => ⟨a, b.symm⟩)) | (go_at_call 124; exact Calls.quiet_of_same ((HP.out _).mono fun _ _ ⟨a, b⟩ => ⟨a, b.symm⟩))))
            go_wp2_with (go_at_call 93; refine (hA.out _ (H1.out.drewN _)).mono ?_; rintro e w' ⟨rfl, rfl⟩)
            have HC := Lib.hid (HC0.out _ (H1.out.drewN nq)); clear HC0
            go_region
            go_wp2_with fail
            go_ret
            rw [E.out]
            exact ⟨rfl, ((HC.out.drewN 1).from (w := w1) (k := nq) rfl).from HK.out⟩
          · have hsa : (u == q.all) = false := by simp [ha]
            clear hall ha
            go_enter Tryd.func84, Tryd.ntmps84
            go_wp2_with (first | (go_at_call 113; refine (ref_IsOwner _ _).mono ?_; rintro e w' ⟨rfl, rfl⟩) | (go_at_call 97; refine (hV.out _ H.out).mono ?_; rintro e w1 ⟨rfl, d, hk⟩; have H1 : Hid (RPoolAt b sb cap q w1) := (by rw [← hk]; exact H.out.drewN d : RPoolAt b sb cap q w1); have c0 := H1.out.c0; have c1 := H1.out.c1; have ck := H1.out.hc hk6; have fk := H1.out.hf k; have f0 := H1.out.row.frozen 0; have HK := Lib.hid hk; clear hk))
            go_quiet ((first | (go_at_call 93; exact Calls.quiet_of_same ((hA.out _ (H1.out.drewN _)).mono fun _ _ ⟨a, b⟩ => ⟨a, b.symm⟩)) | (go_at_call 124; exact Calls.quiet_of_same ((HP.out _).mono fun _ _ ⟨a, b⟩ => ⟨a, b.symm⟩))))
            go_wp2_with (go_at_call 93; refine (hA.out _ (H1.out.drewN _)).mono ?_; rintro e w' ⟨rfl, rfl⟩)
            have HC := Lib.hid (HC0.out _ (H1.out.drewN nq)); clear HC0
            go_region
            go_wp2_with fail
            go_ret
            rw [E.out]
            exact ⟨rfl, ((HC.out.drewN 1).from (w := w1) (k := nq) rfl).from HK.out⟩
  · have E := Lib.hid (take_no hl (q := q))
    have H := Lib.hid h
    have hw := plook_bad hl
    clear h hl
    rcases hw with h1 | ⟨h1, h2⟩ | ⟨h1, h2, h3⟩
    all_goals
      go_enter Tryd.func84, Tryd.ntmps84
      go_wp2_with (go_at_call 113; refine (ref_IsOwner _ _).mono ?_; rintro e w' ⟨rfl, rfl⟩)
      go_ret
      rw [E.out]
      exact ⟨rfl, RPoolP.refl H.out⟩
end Go.Proofs.YtajnfkmkombajabDoor
