/- Package court in memory: Accuse where nothing is wrong; a copy of cases; Due. -/
import Derived.Test.YtajnfkmkombajabDoorCourt2
import Derived.Deep.RegionLaw
import Derived.Deep.AppendLies
import Derived.Lib.Walk
import Derived.Lib.SliceRun
set_option linter.unusedVariables false
set_option linter.unusedSimpArgs false
namespace Go.Proofs.YtajnfkmkombajabDoor
open Go.RowKit Go.Maps

set_option maxRecDepth 8000 in
set_option maxHeartbeats 1000000 in
theorem court_Accuse_yes (A : Nat → Addr) (S : List Nat) (kb : Nat) (F : Nat → Prop) (n : Nat) (k : KS) (o : Int) (e : EV) (cy : Int) (w : World) (h : CourtAt kb F n k w) (hE : Errs A S w) (h2 : 2 ∈ S) (h5 : 5 ∈ S) (h10 : 10 ∈ S) (hw : e.wf) (hn : n ≤ 1000000) (hk : k.L.length ≤ 1000000) (hc : k.code o e cy = 0) :
    Calls Tryd.prog 17 #[.pointer (some ⟨kb, 0, none⟩), .int .i64 o, evV e, .int .i64 cy] w fun y w' => y = .returned .nilIface ∧ CourtP kb F (n + 1) ⟨k.L ++ [(o, e)], k.done⟩ w w' := by
  obtain ⟨i0, z0, hi, hz0, hz1, hz2, hz3⟩ := info_case
  obtain ⟨mb, dv, hL, hF1, hF2, hF3, hlt⟩ := h
  have hB := AccB.of hL hE h2 h5 h10 hw
  have hdl : k.due.length ≤ 1000000 := by unfold KS.due; rw [List.length_drop]; omega
  unfold evV
  generalize hw1 : w.alloc (.cells #[.int .i64 e.b, .int .i64 e.c, .int .i64 e.n] 28) = w1 at hB
  obtain ⟨hb1, hsz1, e0, e1, e2, g2, g5, g10, c0, c1, f1, hlk⟩ := hB
  have hcs : 0 ≤ o ∧ o < 6 ∧ 0 ≤ e.b ∧ e.b < 3 ∧ 0 ≤ e.n ∧ 0 ≤ cy ∧ cy ≤ 1048576 ∧ e.c ≤ cy ∧ cy - 2 ≤ e.c ∧ 0 ≤ e.c ∧ k.has e = false := by
    by_cases hb : o < 0 ∨ 6 ≤ o ∨ e.b < 0 ∨ 3 ≤ e.b ∨ e.n < 0 ∨ cy < 0 ∨ 1048576 < cy
    · rw [KS.bound hb] at hc; cases hc
    · have ho : ownB o = true := ownB_iff.2 (by omega)
      rw [KS.code_of ho (by omega) (by omega) (by omega)] at hc
      split at hc
      · cases hc
      · split at hc
        · cases hc
        · next h1 h2 => exact ⟨by omega, by omega, by omega, by omega, by omega, by omega, by omega, by omega, by omega, by omega, by simpa using h2⟩
  obtain ⟨i1, i2, i3, i4, i5, i6, i7, j1, j2, j3, hh⟩ := hcs
  rw [hh] at hlk
  obtain ⟨D, hown, hat⟩ := hL.map
  have hown1 : ∀ j, (w1.drewN j).ownsMap Tryd.prog 28 (plainElem Tryd.prog 4) mb n D := fun j => by
    obtain ⟨es, clock, q1, q2⟩ := hown
    exact ⟨es, clock, below_heap hb1 q1 (hlt _ hF2), q2⟩
  clear hE hc
  obtain ⟨eb, ec, en⟩ := e
  have HFIN := Lib.hid (fun i j g cap w2 w3 ob => hL.finish (i := i) (j := j) (g := g) (cap := cap) (w1 := w1) (w2 := w2) (w3 := w3) (ob := ob) (o := o) hF1 hF2 hF3 hlt hw hown hat hb1)
  have HFAR := Lib.hid (fun j => hL.far hlt hF1 hF2 hb1 hF3 e0 e1 e2 (j := j))
  have HST := Lib.hid (fun j => (hown1 j).store keyE Tryd.underlying123 (by unfold maxLen; omega) (keyOf_ev hw) (plainElem_bool Tryd.underlying4 true))
  have hlw := hsz1
  unfold evV at hlk HST
  simp only at hlk HST hw1 e0 e1 e2 i3 i4 i5 j1 j2 j3 ⊢
  go_enter Tryd.func17, Tryd.ntmps17
  go_wp2_with fail
  go_quiet (fail)
  go_wp2_with fail
  obtain ⟨w2, hup, hown2, hturn2⟩ := HST.out (nq + 1)
  have HM2 := Lib.hid hown2; have HT2 := Lib.hid hturn2
  have HF2 := Lib.hid (HFAR.out _ _ hturn2)
  obtain ⟨k1, k2, k3, k4, k5, k6⟩ := HF2.out.1
  have k7 := k6 (.cells #[.int .i64 o, .int .i64 eb, .int .i64 ec, .int .i64 en] 36)
  clear k6
  clear hown1 hown hat hturn2 hown2 hL hw
  go_region
  go_wp2_with fail
  have hz2l : w2.heap.size ≤ w2.heap.size := Nat.le_refl _
  go_region_law ((refine step_append_lies _ rfl (.tmp 75) (.tmp 79) 26 rfl 0 36 i0 z0 4 32 Tryd.underlying26 hi hz0 hz1 hz2 hz3 (by decide) dv k.due.length (casesE k.due) rfl (HF2.out.2.1 1 _) ⟨_, 0, none⟩ 1 1 (caseE (o, ⟨eb, ec, en⟩)) rfl rfl (World.news_of_block (heap_alloc_new _ _)) (by intro u hu; simp [caseE] at hu; rcases hu with rfl | rfl | rfl | rfl <;> rfl) (by decide) (by unfold maxLen; omega) (by omega) (Nat.zero_le _) _ rfl ?_; intro g cap w3 ho3 hg3 hor hlt3; obtain ⟨m1, m2⟩ := HF2.out.2.2 1 _ _ hg3))
  all_goals
    have hend := HFIN.out 1 (nq + 1) g cap w2 w3 _ HT2.out HM2.out hg3 ho3 (by simpa using hor) hlt3
    have HEND := Lib.hid hend
    clear hend ho3 hg3 hor hlt3
    go_wp2_with fail
    go_ret
    exact ⟨rfl, HEND.out⟩

theorem court_Accuse (A : Nat → Addr) (S : List Nat) (kb : Nat) (F : Nat → Prop) (n : Nat) (k : KS) (o : Int) (e : EV) (cy : Int) (w : World) (h : CourtAt kb F n k w) (hE : Errs A S w) (h2 : 2 ∈ S) (h5 : 5 ∈ S) (h10 : 10 ∈ S) (hw : e.wf) (hn : n ≤ 1000000) (hk : k.L.length ≤ 1000000) :
    Calls Tryd.prog 17 #[.pointer (some ⟨kb, 0, none⟩), .int .i64 o, evV e, .int .i64 cy] w fun y w' => y = .returned (ev A (k.accuse o e cy).1) ∧ CourtP kb F (n + 1) (k.accuse o e cy).2 w w' := by
  by_cases hc : k.code o e cy = 0
  · rw [KS.acc_ok hc]
    exact court_Accuse_yes A S kb F n k o e cy w h hE h2 h5 h10 hw hn hk hc
  · rw [KS.acc_bad rfl hc]
    exact (court_Accuse_no A S kb F n k o e cy w h hE h2 h5 h10 hw hc).mono fun y w' ⟨a, b1, b2⟩ => ⟨a, b1, b2.mono (Nat.le_succ n)⟩

set_option maxRecDepth 8000 in
/-- a copy of cases -/
theorem cases_Clone (dv : Value) (l : List (Int × EV)) (w : World) (h : w.ownsRow 0 36 4 dv l.length (casesE l)) (hl : l.length ≤ 1000000) :
    Calls Tryd.prog 111 #[dv] w fun y w' => ∃ v', y = .returned v' ∧ w'.ownsRow w.heap.size 36 4 v' l.length (casesE l) ∧ Below w.heap.size w w' := by
  obtain ⟨i0, z0, hi, hz0, hz1, hz2, hz3⟩ := info_case
  have q : ∀ (w : World) (a : Option Addr) (n c n' c' : Nat), (binOp .eql 26 (.slice a n c) (.slice none n' c')).run Tryd.prog w = .ok (.bool a.isNone) w := fun w a n c n' c' => Lib.run_eql_slice_nil w _ _ a n c n' c' Tryd.underlying26
  have u : ∀ w, Sem.run Tryd.prog (underlying 26) w = .ok (TypeDesc.slice 36) w := run_underlying Tryd.underlying26
  have HO := Lib.hid h
  obtain ⟨h1, h2⟩ := h
  rcases h2 with ⟨rfl, hn⟩ | ⟨g, cap, cur, rfl, hb, hg, hnc, hcm, hcs, ht⟩
  · have : l = [] := List.eq_nil_of_length_eq_zero hn
    subst this
    go_enter Tryd.func111, Tryd.ntmps111
    go_wp2
    go_ret
    exact ⟨_, rfl, World.ownsRow_nil _ _ _ _, Below.refl _ _⟩
  · have hcells := HO.out.cells (g := g) rfl
    have HC := Lib.hid hcells
    have HG := Lib.hid hg
    have H1 := Lib.hid h1
    clear hcells hg hcs ht h1
    go_enter Tryd.func111, Tryd.ntmps111
    go_wp2_with (at_builtin; refine wpList_append_own _ rfl _ _ 26 rfl w.heap.size 36 i0 z0 4 32 Tryd.underlying26 hi hz0 hz1 hz2 hz3 (by decide) _ _ _ rfl (World.ownsRow_made w #[] 0 (Nat.le_refl _) (Nat.zero_le _) rfl) ⟨g, 0, none⟩ l.length cap (casesE l) rfl ?qc1 ?qc2 ?qc3 ?qc4 ?qc5 ?qc6 ?_)
    case qc1 => exact H1.out
    case qc2 => exact fun j u hj => Lib.cell?_alloc_some _ (HC.out j u hj)
    case qc3 =>
      intro u hu
      unfold casesE at hu
      obtain ⟨x, _, hx⟩ := List.mem_flatMap.1 hu
      simp [caseE] at hx
      rcases hx with rfl | rfl | rfl | rfl <;> rfl
    case qc4 => unfold maxLen; omega
    case qc5 => omega
    case qc6 => simp
    intro v' w1 hown hgrow hnil
    go_wp2
    go_ret
    exact ⟨v', rfl, by simpa using hown, ((Below.refl _ w).alloc (Nat.le_refl _) _).grown hgrow (by simp) (by intro k hk; simp [Value.ownBlock] at hk; omega)⟩

set_option maxRecDepth 8000 in
theorem court_Due (kb : Nat) (F : Nat → Prop) (n : Nat) (k : KS) (w : World) (h : CourtAt kb F n k w) (hk : k.L.length ≤ 1000000) :
    Calls Tryd.prog 16 #[.pointer (some ⟨kb, 0, none⟩)] w fun y w' => ∃ v', y = .returned v' ∧ w'.ownsRow w.heap.size 36 4 v' k.due.length (casesE k.due) ∧ Keep F w w' ∧ CourtAt kb F n k.asked w' := by
  obtain ⟨mb, dv, hL, hF1, hF2, hF3, hlt⟩ := h
  have hdl : k.due.length ≤ 1000000 := by unfold KS.due; rw [List.length_drop]; omega
  have c1 : w.cell? ⟨kb, 1, none⟩ = some dv := hL.row.cell 1
  have HCL := Lib.hid (fun wx (hx : Below w.heap.size w wx) => cases_Clone dv k.due wx (hL.keep (G := fun _ => False) (Keep.of_below hx) id id (fun _ _ => id)).due hdl)
  have HFIN := Lib.hid (show ∀ wx v', Below w.heap.size w wx → wx.ownsRow w.heap.size 36 4 v' k.due.length (casesE k.due) → (wx.cell? ⟨kb, 1, none⟩ = some dv ∧ wx.frozen? ⟨kb, 1, none⟩ = false) ∧ ∀ i,
      ((wx.drewN i).setCell ⟨kb, 1, none⟩ (.slice none 0 0)).ownsRow w.heap.size 36 4 v' k.due.length (casesE k.due) ∧ Keep F w ((wx.drewN i).setCell ⟨kb, 1, none⟩ (.slice none 0 0)) ∧ CourtAt kb F n k.asked ((wx.drewN i).setCell ⟨kb, 1, none⟩ (.slice none 0 0)) by
    intro wx v' hb ho
    have hL1 : CourtL kb mb dv n k wx := hL.keep (G := fun _ => False) (Keep.of_below hb) id id (fun _ _ => id)
    refine ⟨⟨hL1.row.cell 1, hL1.row.frozen 1⟩, fun i => ?_⟩
    have KE := ((Keep.of_below (F := F) hb).drewN i).setCell (p := ⟨kb, 1, none⟩) (.inl hF1) (.slice none 0 0)
    have hkb := hlt _ hF1
    refine ⟨ownsRow_other ho (fun g hg => Below.heap_setCell (wx.drewN i) _ _ _ (show g ≠ kb from fun e => ?_)), KE, mb, .slice none 0 0, ⟨(hL1.row.drewN i).set 1 _, hL.ne, ?_, ?_, by simp [Value.ownBlock], by simp [Value.ownBlock], hL.wf, Nat.le_refl _⟩, hF1, hF2, (fun g hg => by cases hg), fun b hb' => Nat.lt_of_lt_of_le (hlt b hb') KE.size⟩
    · rcases ho.2 with ⟨hv, _⟩ | ⟨g', cap, cur, hv, hb', _⟩
      · rw [hv] at hg; cases hg
      · rw [hv] at hg; simp [Value.ownBlock] at hg; omega
    · obtain ⟨D, ⟨es, clock, q1, q2⟩, q3⟩ := hL1.map
      exact ⟨D, ⟨es, clock, by rw [Below.heap_setCell _ _ _ _ (show mb ≠ kb from fun e => hL.ne e.symm)]; exact q1, q2⟩, q3⟩
    · have : k.asked.due = [] := by unfold KS.asked KS.due; simp
      rw [this]; exact World.ownsRow_nil _ _ _ _)
  clear hL hF1 hF2 hF3 hlt
  go_enter Tryd.func16, Tryd.ntmps16
  go_wp2_with fail
  refine (HCL.out _ (Below.refl _ _)).mono ?_
  rintro e w1 ⟨v', rfl, ho, hb⟩
  obtain ⟨⟨m1, m2⟩, hend⟩ := HFIN.out w1 v' hb ho
  have HEND := Lib.hid (hend 0)
  clear hend ho hb
  go_wp2_with fail
  go_ret
  exact ⟨v', rfl, HEND.out⟩
end Go.Proofs.YtajnfkmkombajabDoor
