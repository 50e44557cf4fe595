/- Contracts of the document's pool: Leave, Add, Slash; CopyPool. -/
import Derived.Test.YtajnfkmkombajabDoorRefPool2
import Derived.Test.YtajnfkmkombajabDoorAppRd
set_option linter.unusedVariables false
set_option linter.unusedSimpArgs false
namespace Go.Proofs.YtajnfkmkombajabDoor
open Go.RowKit

set_option maxRecDepth 8000 in
set_option maxHeartbeats 1000000 in
theorem refq_Leave (b sb cap : Nat) (q : QS) (o : Int) (w : World) (h : RPoolAt b sb cap q w) :
    Calls Tryd.prog 86 #[.pointer (some ⟨b, 0, none⟩), .int .i64 o] w fun e w' => e = .returned (.tuple #[.int .i64 (q.leaveOp o).1, .int .i64 (q.leaveOp o).2.1]) ∧ RPoolP b sb cap (q.leaveOp o).2.2 w w' := by
  by_cases ho : ownB o = true
  · obtain ⟨h0, h6⟩ := ownB_iff.1 ho
    obtain ⟨k, rfl⟩ := Int.eq_ofNat_of_zero_le h0
    have hk : k < 6 := by omega
    have hk6 := hk
    have c0 := h.c0
    have c1 := h.c1
    have ck := h.hc hk
    have H := Lib.hid h
    by_cases hz : q.at k = 0
    · have E := Lib.hid (show q.leaveOp k = (0, 4, q) by unfold QS.leaveOp; rw [if_neg (by rw [ho]; simp), if_pos hz])
      rw [hz] at ck
      clear h hz h0 h6
      go_enter Tryd.func86, Tryd.ntmps86
      go_wp2_with (go_at_call 113; refine (ref_IsOwner _ _).mono ?_; rintro e w' ⟨rfl, rfl⟩)
      go_ret2
      rw [E.out]
      exact ⟨rfl, RPoolP.refl H.out⟩
    · have hz' : (q.at k == 0) = false := by simp [hz]
      have hj : q.leaveOp k = (q.value k, 0, q.change k (-q.at k) (-q.value k)) := by unfold QS.leaveOp; rw [if_neg (by rw [ho]; simp), if_neg hz]
      have E := Lib.hid hj
      have hok := QS.leaveOp_ok h.ok (k : Int)
      rw [hj] at hok
      have hV := Lib.hid (refq_Value b sb cap q (k : Int))
      have bv := h.ok.value_bd (k : Int)
      have t0 := h.ok.t0; have t1 := h.ok.t1
      have HC0 := Lib.hid (fun wx (hp : RPoolAt b sb cap q wx) => hp.changeP hk6 (-q.at k) (-q.value k) hok)
      rw [show q.at k + -q.at k = 0 by omega] at HC0
      simp only [← Int.sub_eq_add_neg] at HC0
      clear h hj hok hz h0 h6
      go_enter Tryd.func86, Tryd.ntmps86
      go_wp2_with (first | (go_at_call 113; refine (ref_IsOwner _ _).mono ?_; rintro e w' ⟨rfl, rfl⟩) | (go_at_call 97; refine (hV.out _ H.out).mono ?_; rintro e w1 ⟨rfl, d, hk⟩; have H1 : Hid (RPoolAt b sb cap q w1) := (by rw [← hk]; exact H.out.drewN d : RPoolAt b sb cap q w1); have c0 := H1.out.c0; have c1 := H1.out.c1; have ck := H1.out.hc hk6; have fk := H1.out.hf k; have f0 := H1.out.row.frozen 0; have hne := H1.out.ne; have HK := Lib.hid hk; clear hk; have HC := Lib.hid (HC0.out _ H1.out)))
      go_ret2
      rw [E.out]
      first
        | exact ⟨rfl, HC.out.from HK.out⟩
        | exact ⟨rfl, (HC.out.drewN 1).from HK.out⟩
  · have ho' : ownB o = false := by simpa using ho
    have E := Lib.hid (show q.leaveOp o = (0, 2, q) by unfold QS.leaveOp; rw [if_pos ho'])
    have H := Lib.hid h
    clear h ho
    go_enter Tryd.func86, Tryd.ntmps86
    go_wp2_with (go_at_call 113; refine (ref_IsOwner _ _).mono ?_; rintro e w' ⟨rfl, rfl⟩)
    go_ret2
    rw [E.out]
    exact ⟨rfl, RPoolP.refl H.out⟩

set_option maxRecDepth 8000 in
theorem refq_Add (b sb cap : Nat) (q : QS) (n : Int) (w : World) (h : RPoolAt b sb cap q w) :
    Calls Tryd.prog 88 #[.pointer (some ⟨b, 0, none⟩), .int .i64 n] w fun e w' => e = .returned (.int .i64 (q.addOp n).1) ∧ RPoolP b sb cap (q.addOp n).2 w w' := by
  have c0 := h.c0
  have f0 := h.row.frozen 0
  have H := Lib.hid h
  have t0 := h.ok.t0
  have t1 := h.ok.t1
  have hA := Lib.hid (refq_All b sb cap q)
  have HOK := Lib.hid (QS.addOp_ok h.ok n)
  by_cases hn : amtB n = true
  · obtain ⟨n0, n1⟩ := amtB_iff.1 hn
    by_cases hz : q.all = 0
    · have E1 := Lib.hid (show q.addOp n = (4, q) by unfold QS.addOp; rw [if_neg (by rw [hn]; simp), if_pos hz])
      have hz' : (q.all == 0) = true := by simp [hz]
      clear h HOK hz
      go_enter Tryd.func88, Tryd.ntmps88
      go_wp2_with (first | (go_at_call 118; refine (refb_IsAmount _ _).mono ?_; rintro e w' ⟨rfl, rfl⟩) | (go_at_call 93; refine (hA.out _ H.out).mono ?_; rintro e w' ⟨rfl, rfl⟩))
      go_ret
      rw [E1.out]
      exact ⟨rfl, RPoolP.refl H.out⟩
    · have hz' : (q.all == 0) = false := by simp [hz]
      by_cases ht : q.total + n ≤ 1125899906842624
      · have hj : q.addOp n = (0, ⟨q.total + n, q.all, q.sh⟩) := by unfold QS.addOp; rw [if_neg (by rw [hn]; simp), if_neg hz, if_neg (by omega)]
        have E1 := Lib.hid hj
        have hok := HOK.out; rw [hj] at hok
        have HS := Lib.hid (H.out.totalP _ hok)
        clear h HOK hok hj hz
        generalize q.total = T at *
        have hd : decide (1125899906842624 < T + n) = false := decide_eq_false (by omega)
        go_enter Tryd.func88, Tryd.ntmps88
        go_wp2_with (first | (go_at_call 118; refine (refb_IsAmount _ _).mono ?_; rintro e w' ⟨rfl, rfl⟩) | (go_at_call 93; refine (hA.out _ H.out).mono ?_; rintro e w' ⟨rfl, rfl⟩))
        go_ret
        rw [E1.out]
        exact ⟨rfl, HS.out⟩
      · have E1 := Lib.hid (show q.addOp n = (2, q) by unfold QS.addOp; rw [if_neg (by rw [hn]; simp), if_neg hz, if_pos (by omega)])
        clear h HOK hz
        generalize q.total = T at *
        have hd : decide (1125899906842624 < T + n) = true := decide_eq_true (by omega)
        go_enter Tryd.func88, Tryd.ntmps88
        go_wp2_with (first | (go_at_call 118; refine (refb_IsAmount _ _).mono ?_; rintro e w' ⟨rfl, rfl⟩) | (go_at_call 93; refine (hA.out _ H.out).mono ?_; rintro e w' ⟨rfl, rfl⟩))
        go_ret
        rw [E1.out]
        exact ⟨rfl, RPoolP.refl H.out⟩
  · have hn' : amtB n = false := by simpa using hn
    have E1 := Lib.hid (show q.addOp n = (2, q) by unfold QS.addOp; rw [if_pos hn'])
    clear h HOK hn
    go_enter Tryd.func88, Tryd.ntmps88
    go_wp2_with (go_at_call 118; refine (refb_IsAmount _ _).mono ?_; rintro e w' ⟨rfl, rfl⟩)
    go_ret
    rw [E1.out]
    exact ⟨rfl, RPoolP.refl H.out⟩

set_option maxRecDepth 8000 in
theorem refq_Slash (b sb cap : Nat) (q : QS) (n : Int) (w : World) (h : RPoolAt b sb cap q w) :
    Calls Tryd.prog 90 #[.pointer (some ⟨b, 0, none⟩), .int .i64 n] w fun e w' => e = .returned (.tuple #[.int .i64 (q.slashOp n).1, .int .i64 (q.slashOp n).2.1]) ∧ RPoolP b sb cap (q.slashOp n).2.2 w w' := by
  have c0 := h.c0
  have f0 := h.row.frozen 0
  have H := Lib.hid h
  have t0 := h.ok.t0
  have t1 := h.ok.t1
  have HOK := Lib.hid (QS.slashOp_ok h.ok n)
  by_cases hn : n < 0 ∨ 100 < n
  · have E1 := Lib.hid (show q.slashOp n = (0, 2, q) by unfold QS.slashOp; rw [if_pos hn])
    have hcases : n < 0 ∨ (0 ≤ n ∧ 100 < n) := by omega
    clear h HOK hn
    rcases hcases with d1 | ⟨d1, d2⟩
    all_goals
      go_enter Tryd.func90, Tryd.ntmps90
      go_wp2
      go_ret2
      rw [E1.out]
      exact ⟨rfl, RPoolP.refl H.out⟩
  · have hj : q.slashOp n = (q.total * n / 100, 0, ⟨q.total - q.total * n / 100, q.all, q.sh⟩) := by unfold QS.slashOp; rw [if_neg hn]
    have E1 := Lib.hid hj
    have hok := HOK.out; rw [hj] at hok
    have n0 : 0 ≤ n := by omega
    have n1 : n ≤ 100 := by omega
    have hb := slash_bd t0 n0 n1
    have HS := Lib.hid (H.out.totalP _ hok)
    obtain ⟨s1, ⟨s2, s3⟩, ⟨s4, s5⟩, ⟨s6, s7⟩, ⟨s8, s9⟩, s10, s11⟩ := slash_doc t0 t1 n0 n1
    have e1 : q.total.tdiv 100 = q.total / 100 := Int.tdiv_eq_ediv_of_nonneg t0
    have e2 : q.total.tmod 100 = q.total % 100 := Int.tmod_eq_emod_of_nonneg t0
    have e3 : (q.total % 100 * n).tdiv 100 = q.total % 100 * n / 100 := Int.tdiv_eq_ediv_of_nonneg s8
    have HSum := Lib.hid s1
    clear h HOK hok hj hn s1
    obtain ⟨z, hz⟩ : ∃ z, q.total / 100 * n = z := ⟨_, rfl⟩
    obtain ⟨v, hv⟩ : ∃ v, q.total % 100 * n = v := ⟨_, rfl⟩
    obtain ⟨y, hy⟩ : ∃ y, v / 100 = y := ⟨_, rfl⟩
    rw [hv] at e3 s8 s9 s10 s11 HSum
    rw [hy] at e3 s10 s11 HSum
    rw [hz] at s6 s7 HSum
    have hyy : y ≤ v := by omega
    clear hy
    generalize q.total * n / 100 = x at *
    generalize q.total / 100 = u at *
    generalize q.total % 100 = t at *
    generalize q.total = T at *
    have hxt : z + y ≤ T := by have := HSum.out; omega
    have w1 : wrap64 z = z := IntWalk.wrap64_in _ ⟨by omega, by omega⟩
    have w2 : wrap64 v = v := IntWalk.wrap64_in _ ⟨by omega, by omega⟩
    have w3 : wrap64 y = y := IntWalk.wrap64_in _ ⟨by omega, by omega⟩
    go_enter Tryd.func90, Tryd.ntmps90
    go_wp2_with fail
    go_ret2
    rw [E1.out]
    have hs := HSum.out
    subst hs
    exact ⟨rfl, HS.out⟩
end Go.Proofs.YtajnfkmkombajabDoor
