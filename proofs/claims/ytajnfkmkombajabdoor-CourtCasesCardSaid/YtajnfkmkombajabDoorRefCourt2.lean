/- The document's court in memory: Due. -/
import Derived.Test.YtajnfkmkombajabDoorRefCourt
set_option linter.unusedVariables false
set_option linter.unusedSimpArgs false
namespace Go.Proofs.YtajnfkmkombajabDoor
open Go.RowKit Go.Maps

theorem casesE_one (l : List (Int × EV)) : ∀ u ∈ casesE l, u.oneCell' = true := by
  intro u hu
  unfold casesE at hu
  obtain ⟨x, _, hx⟩ := List.mem_flatMap.1 hu
  simp [caseE] at hx
  rcases hx with rfl | rfl | rfl | rfl <;> rfl
theorem casesE_drop : ∀ (l : List (Int × EV)) (n : Nat), (casesE l).drop (n * 4) = casesE (l.drop n)
  | [], n => by simp [casesE]
  | x :: l, 0 => by simp
  | x :: l, n + 1 => by
    have : casesE (x :: l) = caseE x ++ casesE l := rfl
    rw [this, List.drop_succ_cons, ← casesE_drop l n, show (n + 1) * 4 = (caseE x).length + n * 4 by rw [caseE_len]; omega, List.drop_length_add_append]

set_option maxRecDepth 8000 in
set_option maxHeartbeats 2000000 in
theorem ref_CourtDue (rb : Nat) (F : Nat → Prop) (k : KS) (w : World) (h : RCourtAt rb F k w) (hk : k.L.length ≤ 1000000) :
    Calls Tryd.prog 18 #[.pointer (some ⟨rb, 0, none⟩)] w fun y w' => ∃ v', y = .returned v' ∧ w'.ownsRow w.heap.size 43 4 v' k.due.length (casesE k.due) ∧ Keep F w w' ∧ RCourtAt rb F k.asked w' := by
  obtain ⟨i0, z0, hi, hz0, hz1, hz2, hz3⟩ := info_rcase
  obtain ⟨lv, hL, hF1, hF3, hlt⟩ := h
  have hdue : k.due.length = k.L.length - k.done := by unfold KS.due; rw [List.length_drop]
  have hdn := hL.done
  have c0 : w.cell? ⟨rb, 0, none⟩ = some lv := hL.row.cell 0
  have c1 : w.cell? ⟨rb, 1, none⟩ = some (.int .i64 k.done) := hL.row.cell 1
  have HFAR := Lib.hid (show ∀ wx, (∃ i, (w.drewN i).grownBy wx none) → wx.cell? ⟨rb, 0, none⟩ = some lv ∧ wx.cell? ⟨rb, 1, none⟩ = some (.int .i64 k.done) ∧ wx.frozen? ⟨rb, 1, none⟩ = false from fun wx ⟨i, hg⟩ => by
    have hr : RowAt rb 41 [lv, .int .i64 k.done] wx := hL.row.keep (((Keep.refl (fun _ => False) w).drewN i).grown hg (fun k hk => by cases hk)) id
    exact ⟨hr.cell 0, hr.cell 1, hr.frozen 1⟩)
  have HEND := Lib.hid (show ∀ wx v', (∃ i, (w.drewN i).grownBy wx none) → wx.ownsRow w.heap.size 43 4 v' k.due.length (casesE k.due) → ∀ j,
      ((wx.drewN j).setCell ⟨rb, 1, none⟩ (.int .i64 k.L.length)).ownsRow w.heap.size 43 4 v' k.due.length (casesE k.due) ∧ Keep F w ((wx.drewN j).setCell ⟨rb, 1, none⟩ (.int .i64 k.L.length)) ∧ RCourtAt rb F k.asked ((wx.drewN j).setCell ⟨rb, 1, none⟩ (.int .i64 k.L.length)) from fun wx v' ⟨i, hg⟩ ho j => by
    have K0 : ∀ G, Keep G w wx := fun G => ((Keep.refl G w).drewN i).grown hg (fun k hk => by cases hk)
    have hrb := hlt _ hF1
    have hr : RowAt rb 41 [lv, .int .i64 k.done] wx := hL.row.keep (K0 (fun _ => False)) id
    have hs := (hr.drewN j).set 1 (.int .i64 k.L.length)
    have KE := ((K0 F).drewN j).setCell (p := ⟨rb, 1, none⟩) (.inl hF1) (.int .i64 k.L.length)
    refine ⟨ownsRow_other ho (fun g hg => Below.heap_setCell (wx.drewN j) _ _ _ (show g ≠ rb from fun e => ?_)), KE, lv, ⟨hs, ?_, hL.nl, Nat.le_refl _⟩, hF1, hF3, fun b hb => Nat.lt_of_lt_of_le (hlt b hb) KE.size⟩
    · have := (ho.lt g hg).1; omega
    · refine ownsRow_other hL.l (fun g hg => ?_)
      rw [Below.heap_setCell (wx.drewN j) _ _ _ (show g ≠ rb from fun e => hL.nl (by rw [hg, e]))]
      exact (K0 (fun _ => False)).block g (hL.l.lt g hg).2 id)
  have hone := casesE_one k.due
  rcases hL.l.2 with ⟨rfl, hn⟩ | ⟨g, cap, cur, rfl, _, hg, hnc, hcm, hcs, htk⟩
  · have hd0 : k.done = 0 := by omega
    have hd1 : k.due.length = 0 := by omega
    have hd2 : k.due = [] := List.eq_nil_of_length_eq_zero hd1
    have HD := Lib.hid (And.intro hd1 hd2)
    have HN := Lib.hid hn
    rw [hd0] at c1
    clear hL hF1 hF3 hlt hdue hdn hn hone hd0 hd1 hd2
    go_enter Tryd.func18, Tryd.ntmps18
    go_wp2_with fail
    go_region
    obtain ⟨m0, m1, m2⟩ := HFAR.out w.drew ⟨1, rfl, rfl, rfl, Nat.le_refl _, fun _ _ _ => rfl⟩
    have hend := HEND.out w.drew (.slice none 0 0) ⟨1, rfl, rfl, rfl, Nat.le_refl _, fun _ _ _ => rfl⟩ (by rw [HD.out.1, HD.out.2]; exact World.ownsRow_nil _ _ _ _) 0
    rw [HN.out] at hend
    have HE := Lib.hid hend; clear hend
    go_wp2_with fail
    go_ret
    exact ⟨_, rfl, HE.out⟩
  · have hcells := hL.l.cells (g := g) rfl
    have hdc : ∀ j u, (casesE k.due)[j]? = some u → w.cell? ((⟨g, k.done * 4, none⟩ : Addr).add j) = some u := fun j u hu => by
      unfold KS.due at hu
      rw [← casesE_drop, List.getElem?_drop] at hu
      have := hcells _ _ hu
      rw [Addr.add_lit] at this ⊢
      rw [Nat.zero_add] at this
      exact this
    have hdl : (casesE k.due).length = (k.L.length - k.done) * 4 := by rw [casesE_length, hdue]
    have HDC := Lib.hid hdc; have HDL := Lib.hid hdl; have HONE := Lib.hid hone; have HDU := Lib.hid hdue
    clear hL hF1 hF3 hlt hcells hdc hdl hone hg htk hcs hdue
    generalize hl : k.L.length = len at *
    generalize hd : k.done = dn at *
    clear hl hd
    by_cases hcd : cap = dn
    · subst hcd
      have hle : len = cap := by omega
      subst hle
      have HNE := Lib.hid (show casesE k.due = [] from List.eq_nil_of_length_eq_zero (by rw [HDL.out]; omega))
      go_enter Tryd.func18, Tryd.ntmps18
      go_wp2_with fail
      go_region_law ((refine step_append_at rfl (.tmp 4) (.tmp 13) 39 rfl w.heap.size 43 i0 z0 4 32 Tryd.underlying39 hi hz0 hz1 hz2 hz3 (by decide) (.slice none 0 0) 0 [] rfl (World.ownsRow_nil _ _ _ _) ⟨g, 0, none⟩ 0 0 [] rfl rfl (by intro j u h; cases h) (by intro u h; cases h) (by decide) (by decide) (by simp) ?_; intro v' w2 ho hg2 hb2))
      all_goals
        obtain ⟨m0, m1, m2⟩ := HFAR.out w2 ⟨1, hg2⟩
        have hend := HEND.out w2 v' ⟨1, hg2⟩ (by rw [HNE.out, HDU.out, Nat.sub_self]; exact ho) 0
        have HE := Lib.hid hend; clear hend ho hg2 hb2
        go_wp2_with fail
        go_ret
        exact ⟨_, rfl, HE.out⟩
    · go_enter Tryd.func18, Tryd.ntmps18
      go_wp2_with fail
      go_region_law ((refine step_append_at rfl (.tmp 4) (.tmp 13) 39 rfl w.heap.size 43 i0 z0 4 32 Tryd.underlying39 hi hz0 hz1 hz2 hz3 (by decide) (.slice none 0 0) 0 [] rfl (World.ownsRow_nil _ _ _ _) ⟨g, dn * 4, none⟩ (len - dn) (cap - dn) (casesE k.due) rfl HDL.out (HDC.out) HONE.out (by unfold maxLen; omega) (by omega) (by simp) ?_; intro v' w2 ho hg2 hb2))
      all_goals
        obtain ⟨m0, m1, m2⟩ := HFAR.out w2 ⟨1, hg2⟩
        have hend := HEND.out w2 v' ⟨1, hg2⟩ (by rw [HDU.out]; simpa using ho) 0
        have HE := Lib.hid hend; clear hend ho hg2 hb2
        go_wp2_with fail
        go_ret
        exact ⟨_, rfl, HE.out⟩
end Go.Proofs.YtajnfkmkombajabDoor
