/-
  A chain: the calls that only look; payments, stakes, what is freed, evidence.
  Contracts of package part: Check, down, Bend.
  Contracts of package part: down, Bend.
-/
import Derived.Test.YtajnfkmkombajaaGreatDoorQSP14
import Derived.Test.YtajnfkmkombajaaGreatDoorQSP17
import Derived.Deep.RegionWith
import Derived.Deep.RegionHeld3
import Derived.Deep.QuietTactic
import Derived.BigQuiet
import Derived.Test.YtajnfkmkombajaaGreatDoorQSP05
import Derived.Test.YtajnfkmkombajaaGreatDoorQSP04
import Derived.Test.YtajnfkmkombajaaGreatDoorQSP01
import Derived.Deep.DeepCutAuto
set_option linter.unusedVariables false
set_option linter.unusedSimpArgs false
set_option linter.unusedVariables false
namespace Go.Proofs.YtajnfkmkombajaaGreatDoor
open Go.RowKit Go.Maps
section
variable {W w : World} {F : Nat → Prop} {cb n sd : Nat} {K : ChL} {x : CS}
theorem ChGo.c0 (h : ChGo W F cb K n sd x w) : w.cell? ⟨cb, 0, none⟩ = some (.pointer (some ⟨K.pb, 0, none⟩)) := h.ch.cell 0
theorem ChGo.c1 (h : ChGo W F cb K n sd x w) : w.cell? ⟨cb, 1, none⟩ = some (.pointer (some ⟨K.sb, 0, none⟩)) := h.ch.cell 1
theorem ChGo.c2 (h : ChGo W F cb K n sd x w) : w.cell? ⟨cb, 2, none⟩ = some (.pointer (some ⟨K.kb, 0, none⟩)) := h.ch.cell 2
theorem ChGo.c3 (h : ChGo W F cb K n sd x w) : w.cell? ⟨cb, 3, none⟩ = some (.int .u64 sd) := h.ch.cell 3
theorem ChGo.c4 (h : ChGo W F cb K n sd x w) : w.cell? ⟨cb, 4, none⟩ = some (.int .i64 x.cycle) := h.ch.cell 4
theorem ChGo.c5 (h : ChGo W F cb K n sd x w) : w.cell? ⟨cb, 5, none⟩ = some (.int .i64 x.level) := h.ch.cell 5
theorem ChGo.c6 (h : ChGo W F cb K n sd x w) : w.cell? ⟨cb, 6, none⟩ = some (.int .i64 x.bonus) := h.ch.cell 6
theorem ChGo.c7 (h : ChGo W F cb K n sd x w) : w.cell? ⟨cb, 7, none⟩ = some K.pv := h.ch.cell 7
theorem chain_Cycle (h : ChGo W F cb K n sd x w) : Calls Tryz.prog 121 #[.pointer (some ⟨cb, 0, none⟩)] w fun e w' => e = .returned (.int .i64 x.cycle) ∧ w = w' := by
 have c := h.c4
 clear h
 go_enter Tryz.func121, Tryz.ntmps121
 go_wp2
 go_ret
 exact ⟨rfl, rfl⟩
theorem chain_Level (h : ChGo W F cb K n sd x w) : Calls Tryz.prog 122 #[.pointer (some ⟨cb, 0, none⟩)] w fun e w' => e = .returned (.int .i64 x.level) ∧ w = w' := by
 have c := h.c5
 clear h
 go_enter Tryz.func122, Tryz.ntmps122
 go_wp2
 go_ret
 exact ⟨rfl, rfl⟩
theorem chain_Stakes (h : ChGo W F cb K n sd x w) : Calls Tryz.prog 111 #[.pointer (some ⟨cb, 0, none⟩)] w fun e w' => e = .returned (.pointer (some ⟨K.sb, 0, none⟩)) ∧ w = w' := by
 have c := h.c1
 clear h
 go_enter Tryz.func111, Tryz.ntmps111
 go_wp2
 go_ret
 exact ⟨rfl, rfl⟩
end
noncomputable def CS.turnV (c : CS) (sd : Nat) (r : Int) : Int := if roundOk c.cycle c.level r then bakerV (c.pics.getD 0 []) sd c.cycle c.level r else 0
def CS.turnC (c : CS) (r : Int) : Nat := if roundOk c.cycle c.level r then 0 else 2
theorem pic_fine {l : List Int} (h : (∀ x ∈ l, 0 ≤ x ∧ x ≤ 1073741824) ∧ l.length = 3 ∧ 1 ≤ l.sum) : weightsF l = (0, -1) := by
 obtain ⟨h1, h2, h3⟩ := h
 have hb : ¬ 0 ≤ firstBad l := by
   unfold firstBad
   rw [if_neg (fun hlt => ?_)]
   · decide
   · have hx : badW (l[l.findIdx badW]'hlt) = true := List.findIdx_getElem
     have hm := h1 _ (List.getElem_mem hlt)
     generalize l[l.findIdx badW]'hlt = y at hx hm
     unfold badW at hx
     simp at hx
     omega
 unfold weightsF
 rw [if_neg (by omega), if_neg hb, if_neg (by omega)]
theorem turn_fault {c : CS} (h : c.Inv) (r : Int) : bakerF (c.pics.getD 0 []) c.cycle c.level r = (c.turnC r, -1) := by
 have hl : c.pics.getD 0 [] ∈ c.pics := getD_mem _ _ _ (by rw [h.three]; decide)
 obtain ⟨h1, h2, h3⟩ := h.pic _ hl
 unfold bakerF CS.turnC
 by_cases hr : roundOk c.cycle c.level r
 · rw [if_pos hr, if_pos hr]; exact pic_fine ⟨h2, h1, h3⟩
 · rw [if_neg hr, if_neg hr]
theorem chain_Turn (A : Nat → Addr) (S : List Nat) (W : World) (F : Nat → Prop) (cb : Nat) (K : ChL) (n sd : Nat) (x : CS) (r : Int) (w : World) (h : ChGo W F cb K n sd x w) (hx : x.Inv) (hs : sd < 18446744073709551616)
   (hE : Errs A S W) (hFE : ∀ c ∈ S, ¬ F (gE c)) (h2 : 2 ∈ S) (h3 : 3 ∈ S) (h4 : 4 ∈ S) :
   Calls Tryz.prog 103 #[.pointer (some ⟨cb, 0, none⟩), .int .i64 r] w fun e w' => e = .returned (.tuple #[.int .i64 (x.turnV sd r), ev A (x.turnC r)]) ∧ Below w.heap.size w w' := by
 have c3 := h.c3; have c4 := h.c4; have c5 := h.c5; have c7 := h.c7
 obtain ⟨vs, o1, o2, o3⟩ := h.ch.pics.own
 have hl3 := hx.three
 obtain ⟨g, off, cap, hv, hg0, hgl, hcap, hcm, hcell⟩ := o1.cells (by rw [o2, hl3]; decide)
 have hv0 : vs[0]? = some (vs[0]'(by rw [o2, hl3]; decide)) := List.getElem?_eq_getElem _
 have hz0 : x.pics[0]? = some (x.pics.getD 0 []) := by
   rw [List.getD_eq_getElem?_getD, List.getElem?_eq_getElem (by rw [hl3]; decide)]; rfl
 obtain ⟨ao, cp, ev0, R, -⟩ := o3 0 _ _ hv0 hz0
 have hc0 := hcell 0 (by rw [o2, hl3]; decide)
 rw [hv0, ev0, Nat.add_zero] at hc0
 rw [hv, o2, hl3] at c7
 have HB := Lib.hid (fun wx (hb : Below w.heap.size w wx) => by
   have := right_Baker A S ao cp (x.pics.getD 0 []) sd hs x.cycle x.level r wx (R.below hb) ((h.below hb).errs hE hFE) h2 h3 h4
   unfold BakerPost at this
   rw [turn_fault hx r] at this
   exact this)
 have HT := Lib.hid (show (if x.turnC r = 0 then bakerV (x.pics.getD 0 []) sd x.cycle x.level r else 0) = x.turnV sd r by
   unfold CS.turnV CS.turnC
   by_cases hr : roundOk x.cycle x.level r
   · rw [if_pos hr, if_pos hr]; rfl
   · rw [if_neg hr, if_neg hr]; rfl)
 have hfac : ∀ wx, Below w.heap.size w wx → wx.cell? ⟨cb, 3, none⟩ = some (.int .u64 sd) ∧ wx.cell? ⟨cb, 4, none⟩ = some (.int .i64 x.cycle) ∧ wx.cell? ⟨cb, 5, none⟩ = some (.int .i64 x.level) ∧ wx.cell? ⟨cb, 7, none⟩ = some (.slice (some ⟨g, off, none⟩) 3 cap) ∧ wx.cell? ⟨g, off, none⟩ = some (.slice ao (x.pics.getD 0 []).length cp) := fun wx hb => by
   have hcb := h.ch.row.lt
   exact ⟨by rw [hb.cell (p := ⟨cb, 3, none⟩) hcb]; exact c3, by rw [hb.cell (p := ⟨cb, 4, none⟩) hcb]; exact c4, by rw [hb.cell (p := ⟨cb, 5, none⟩) hcb]; exact c5, by rw [hb.cell (p := ⟨cb, 7, none⟩) hcb]; exact c7, by rw [hb.cell (p := ⟨g, off, none⟩) hgl]; exact hc0⟩
 have HF := Lib.hid hfac
 have hcap3 : 3 ≤ cap := by rw [o2, hl3] at hcap; exact hcap
 clear h hx o1 o3 hcell hv hv0 hz0 ev0 R hE hFE hfac hcap o2 hl3
 generalize (x.pics.getD 0 []).length = zl at *
 generalize x.turnV sd r = tv at *
 go_enter Tryz.func103, Tryz.ntmps103
 go_wp2_with fail
 go_region_held3 (fun wx => wx.cell? ⟨cb, 3, none⟩ = some (.int .u64 sd) ∧ wx.cell? ⟨cb, 4, none⟩ = some (.int .i64 x.cycle) ∧ wx.cell? ⟨cb, 5, none⟩ = some (.int .i64 x.level) ∧ wx.cell? ⟨cb, 7, none⟩ = some (.slice (some ⟨g, off, none⟩) 3 cap) ∧ wx.cell? ⟨g, off, none⟩ = some (.slice ao zl cp)) (first | exact HF.out _ H1.out | exact HF.out _ ((Below.refl _ _).drewN _) | exact HF.out _ (Below.refl _ _))
   ((go_at_call 150; refine (HB.out _ ((Below.refl _ _).drewN 1)).mono ?_; rintro y w1 ⟨v, rfl, he, hb⟩; have hv : v = ev A (x.turnC r) := (he.elim (fun h => h.2) (fun h => absurd h.1 (by simp))); subst hv; rw [HT.out]; have H1 := Lib.hid (btrans ((Below.refl _ _).drewN 1) hb)))
 go_wp2
 go_ret2
 exact ⟨rfl, H1.out⟩
section
variable (A : Nat → Addr) (S : List Nat) (W : World) (F : Nat → Prop) (cb : Nat) (K : ChL) (n sd : Nat) (x : CS) (w : World)
theorem chain_Pay (a b N : Int) (h : ChGo W F cb K n sd x w) (hE : Errs A S W) (hFE : ∀ c ∈ S, ¬ F (gE c)) (h2 : 2 ∈ S) (h6 : 6 ∈ S) :
   Calls Tryz.prog 91 #[.pointer (some ⟨cb, 0, none⟩), .int .i64 a, .int .i64 b, .int .i64 N] w fun e w' => e = .returned (ev A (x.p.moveOp a b N).1) ∧ ChGo W F cb K n sd { x with p := (x.p.moveOp a b N).2 } w' := by
 have c0 := h.c0
 have H0 := Lib.hid h
 have hfar : Far S K.pb := fun c hc e => h.fs hE hFE c hc (.inr (.inl e))
 have HM := Lib.hid (purse_Move A S K.pb x.p a b N w (h.errs hE hFE) h2 h6 hfar h.ch.purse)
 clear h hE hFE hfar
 go_enter Tryz.func91, Tryz.ntmps91
 go_wp2_with fail
 refine HM.out.mono ?_
 rintro e w1 ⟨rfl, h⟩
 have H1 := Lib.hid (H0.out.purse h); clear h
 go_wp2_with fail
 go_ret
 exact ⟨rfl, H1.out⟩
theorem chain_Unstake (o b N : Int) (h : ChGo W F cb K n sd x w) (hE : Errs A S W) (hFE : ∀ c ∈ S, ¬ F (gE c)) (h2 : 2 ∈ S) (h4 : 4 ∈ S) (h6 : 6 ∈ S) (h7 : 7 ∈ S) (h8 : 8 ∈ S) (hn : n + 1 < maxLen) (hcy : (Lit.int .i64 x.cycle).wf = true) :
   Calls Tryz.prog 94 #[.pointer (some ⟨cb, 0, none⟩), .int .i64 o, .int .i64 b, .int .i64 N] w fun e w' => e = .returned (ev A (x.s.leaveOp o b N x.cycle).1) ∧ ∃ K', ChGo W F cb K' (n + 2) sd { x with s := (x.s.leaveOp o b N x.cycle).2 } w' := by
 have c1 := h.c1; have c4 := h.c4
 have H0 := Lib.hid h
 have HM := Lib.hid (fun w' (k : Below w.heap.size w w') => stake_Leave A S K.sb K.Fs n x.s o b N x.cycle w' (h.ch.below k).st ((h.below k).errs hE hFE) h2 h4 h6 h7 h8 hn hcy)
 have HF := Lib.hid (fun wx (k : Below w.heap.size w wx) => And.intro (h.below k).c1 (h.below k).c4)
 clear h hE hFE hcy
 go_enter Tryz.func94, Tryz.ntmps94
 go_wp2_with fail
 go_region_held3 (fun wx => wx.cell? ⟨cb, 1, none⟩ = some (.pointer (some ⟨K.sb, 0, none⟩)) ∧ wx.cell? ⟨cb, 4, none⟩ = some (.int .i64 x.cycle)) (first | exact ⟨H1.out.c1, H1.out.c4⟩ | exact HF.out _ ((Below.refl _ _).drewN _) | exact HF.out _ (Below.refl _ _))
   ((go_at_call 146; refine (HM.out _ ((Below.refl _ _).drewN 1)).mono ?_; rintro e w1 ⟨rfl, h⟩; have H1 := Lib.hid ((H0.out.drewN 1).stakes (by omega) h); clear h))
 go_wp2_with fail
 go_ret
 exact ⟨rfl, _, H1.out⟩
theorem chain_Accuse (o : Int) (e : EV) (h : ChGo W F cb K n sd x w) (hE : Errs A S W) (hFE : ∀ c ∈ S, ¬ F (gE c)) (h2 : 2 ∈ S) (h5 : 5 ∈ S) (h10 : 10 ∈ S) (hw : e.wf) (hn : n ≤ 1000000) (hk : x.k.L.length ≤ 1000000) :
   Calls Tryz.prog 96 #[.pointer (some ⟨cb, 0, none⟩), .int .i64 o, evV e] w fun y w' => y = .returned (ev A (x.k.accuse o e x.cycle).1) ∧ ∃ K', ChGo W F cb K' (n + 1) sd { x with k := (x.k.accuse o e x.cycle).2 } w' := by
 have c2 := h.c2; have c4 := h.c4
 have H0 := Lib.hid h
 have HM := Lib.hid (fun w' (k : Below w.heap.size w w') => court_Accuse A S K.kb K.Fk n x.k o e x.cycle w' (h.ch.below k).ct ((h.below k).errs hE hFE) h2 h5 h10 hw hn hk)
 have hb1 : Below w.heap.size w (w.alloc (.cells #[.int .i64 e.b, .int .i64 e.c, .int .i64 e.n] 61)) := (Below.refl _ _).alloc (Nat.le_refl _) _
 have e0 : (w.alloc (.cells #[.int .i64 e.b, .int .i64 e.c, .int .i64 e.n] 61)).cell? ⟨w.heap.size, 0, none⟩ = some (.int .i64 e.b) := by simp [go_sem]
 have e1 : (w.alloc (.cells #[.int .i64 e.b, .int .i64 e.c, .int .i64 e.n] 61)).cell? ⟨w.heap.size, 1, none⟩ = some (.int .i64 e.c) := by simp [go_sem]
 have e2 : (w.alloc (.cells #[.int .i64 e.b, .int .i64 e.c, .int .i64 e.n] 61)).cell? ⟨w.heap.size, 2, none⟩ = some (.int .i64 e.n) := by simp [go_sem]
 unfold evV at HM ⊢
 generalize hw1 : w.alloc (.cells #[.int .i64 e.b, .int .i64 e.c, .int .i64 e.n] 61) = wb at hb1 e0 e1 e2
 have HBB := Lib.hid hb1
 have hbs : w.heap.size < wb.heap.size := by rw [← hw1]; simp
 have HKC := Lib.hid (fun (i : Nat) (wy : World) (kk : Keep K.Fk (wb.drewN 1) wy) => kk.cell (p := ⟨w.heap.size, i, none⟩) (show w.heap.size < (wb.drewN 1).heap.size from hbs) (fun hf => by
   obtain ⟨_, _, _, _, _, _, hl⟩ := h.ch.ct
   exact absurd (hl _ hf) (Nat.lt_irrefl _)))
 have c2' := (h.below hb1).c2; have c4' := (h.below hb1).c4
 clear h hE hFE hb1 c2 c4
 go_enter Tryz.func96, Tryz.ntmps96
 go_wp2_with fail
 go_region_held3 (fun wx => wx.cell? ⟨cb, 2, none⟩ = some (.pointer (some ⟨K.kb, 0, none⟩)) ∧ wx.cell? ⟨cb, 4, none⟩ = some (.int .i64 x.cycle) ∧ wx.cell? ⟨w.heap.size, 0, none⟩ = some (.int .i64 e.b) ∧ wx.cell? ⟨w.heap.size, 1, none⟩ = some (.int .i64 e.c) ∧ wx.cell? ⟨w.heap.size, 2, none⟩ = some (.int .i64 e.n)) (first | exact ⟨H1.out.c2, H1.out.c4, by rw [q0]; exact e0, by rw [q1]; exact e1, by rw [q2]; exact e2⟩ | exact ⟨c2', c4', e0, e1, e2⟩ | (simp only [World.cell?_drewN]; exact ⟨c2', c4', e0, e1, e2⟩))
   ((go_at_call 147; refine (HM.out _ (HBB.out.drewN 1)).mono ?_; rintro e w1 ⟨rfl, h⟩; have q0 := HKC.out 0 _ h.1; have q1 := HKC.out 1 _ h.1; have q2 := HKC.out 2 _ h.1; have H1 := Lib.hid ((H0.out.below (HBB.out.drewN 1)).court (by omega) h); clear h))
 go_wp2_with fail
 go_ret
 exact ⟨rfl, _, H1.out⟩
set_option maxHeartbeats 800000 in
theorem chain_Stake (o b N : Int) (h : ChGo W F cb K n sd x w) (hE : Errs A S W) (hFE : ∀ c ∈ S, ¬ F (gE c)) (h2 : 2 ∈ S) (h4 : 4 ∈ S) (h6 : 6 ∈ S) (h7 : 7 ∈ S) (h8 : 8 ∈ S) (hn : n < maxLen) :
   Calls Tryz.prog 54 #[.pointer (some ⟨cb, 0, none⟩), .int .i64 o, .int .i64 b, .int .i64 N] w fun e w' => e = .returned (ev A (x.stakeOp o b N).1) ∧ ∃ K', ChGo W F cb K' (n + 1) sd (x.stakeOp o b N).2 w' := by
 have c0 := h.c0
 have H0 := Lib.hid h
 have HO := Lib.hid (purse_Out A S K.pb x.p o N w (h.errs hE hFE) h2 h6 h.ch.purse)
 have HEE := Lib.hid (And.intro hE hFE)
 clear h hE hFE
 by_cases hc : (x.p.outOp o N).1 = 0
 · have ec : ev A (x.p.outOp o N).1 = .nilIface := by rw [hc]; rfl
   by_cases hj : (x.s.joinOp o b N).1 = 0
   · have ej : ev A (x.s.joinOp o b N).1 = .nilIface := by rw [hj]; rfl
     have E := Lib.hid (show x.stakeOp o b N = (0, { x with p := (x.p.outOp o N).2, s := (x.s.joinOp o b N).2 }) by unfold CS.stakeOp; rw [if_neg (by simp [hc]), if_neg (by simp [hj])])
     clear hc hj
     go_enter Tryz.func54, Tryz.ntmps54
     go_wp2_with fail
     refine HO.out.mono ?_
     rintro e w1 ⟨rfl, h⟩
     rw [ec]
     have H1 := Lib.hid (H0.out.purse h); clear h
     have d1 := H1.out.c1
     go_wp2_with fail
     refine (stake_Join A S K.sb K.Fs n x.s o b N _ H1.out.ch.st (H1.out.errs HEE.out.1 HEE.out.2) h2 h4 h7 h8 hn).mono ?_
     rintro e w2 ⟨rfl, h⟩
     rw [ej]
     have H2 := Lib.hid (H1.out.stakes (Nat.le_succ n) h); clear h
     go_wp2_with fail
     go_ret
     exact ⟨by rw [E.out]; rfl, by rw [E.out]; exact ⟨_, H2.out⟩⟩
   · have ej : ev A (x.s.joinOp o b N).1 = .iface 288 (.pointer (some (A (x.s.joinOp o b N).1))) := ev_some A hj
     have E := Lib.hid (show x.stakeOp o b N = ((x.s.joinOp o b N).1, { x with p := ((x.p.outOp o N).2.inOp o N).2, s := (x.s.joinOp o b N).2 }) by unfold CS.stakeOp; rw [if_neg (by simp [hc]), if_pos (by simp [hj])])
     clear hc hj
     go_enter Tryz.func54, Tryz.ntmps54
     go_wp2_with fail
     refine HO.out.mono ?_
     rintro e w1 ⟨rfl, h⟩
     rw [ec]
     have H1 := Lib.hid (H0.out.purse h); clear h
     have d1 := H1.out.c1
     go_wp2_with fail
     refine (stake_Join A S K.sb K.Fs n x.s o b N _ H1.out.ch.st (H1.out.errs HEE.out.1 HEE.out.2) h2 h4 h7 h8 hn).mono ?_
     rintro e w2 ⟨rfl, h⟩
     rw [ej]
     have H2 := Lib.hid (H1.out.stakes (Nat.le_succ n) h); clear h
     have e0 := H2.out.c0
     go_wp2_with fail
     refine (purse_In A S K.pb (x.p.outOp o N).2 o N _ (H2.out.errs HEE.out.1 HEE.out.2) h2 h6 H2.out.ch.purse).mono ?_
     rintro e w3 ⟨rfl, h⟩
     have H3 := Lib.hid (H2.out.purse h); clear h
     go_wp2_with fail
     go_ret
     exact ⟨by rw [E.out]; exact congrArg _ ej.symm, by rw [E.out]; exact ⟨_, H3.out⟩⟩
 · have ec : ev A (x.p.outOp o N).1 = .iface 288 (.pointer (some (A (x.p.outOp o N).1))) := ev_some A hc
   have hsame := (PS.out_sum (p := x.p) o N).2 hc
   have E := Lib.hid (show x.stakeOp o b N = ((x.p.outOp o N).1, { x with p := (x.p.outOp o N).2 }) by unfold CS.stakeOp; rw [if_pos hc, hsame])
   clear hc hsame
   go_enter Tryz.func54, Tryz.ntmps54
   go_wp2_with fail
   refine HO.out.mono ?_
   rintro e w1 ⟨rfl, h⟩
   rw [ec]
   have H1 := Lib.hid (H0.out.purse h); clear h
   go_wp2_with fail
   go_ret
   exact ⟨by rw [E.out]; exact congrArg _ ec.symm, by rw [E.out]; exact ⟨_, H1.out.mono (Nat.le_succ n)⟩⟩
set_option maxHeartbeats 800000 in
theorem chain_Free (o : Int) (h : ChGo W F cb K n sd x w) (hx : x.Inv) (hE : Errs A S W) (hFE : ∀ c ∈ S, ¬ F (gE c)) (h2 : 2 ∈ S) (h4 : 4 ∈ S) (h6 : 6 ∈ S) (hW : x.s.W.length ≤ 8000) (hn : n + x.s.W.length < maxLen) :
   Calls Tryz.prog 101 #[.pointer (some ⟨cb, 0, none⟩), .int .i64 o] w fun e w' => e = .returned (.tuple #[.int .i64 (x.freeOp o).1, ev A (x.freeOp o).2.1]) ∧ ∃ K', ChGo W F cb K' (n + x.s.W.length) sd (x.freeOp o).2.2 w' := by
 have c1 := h.c1; have c4 := h.c4
 have H0 := Lib.hid h
 have hfs : ∀ c ∈ S, ¬ K.Fs (gE c) := fun c hc hf => h.fs hE hFE c hc (.inr (.inr (.inl hf)))
 have HF := Lib.hid (fun w' (k : Below w.heap.size w w') => stake_Free A S K.sb n K.Fs x.s o x.cycle w' (h.ch.below k).st ((h.below k).errs hE hFE) h2 h4 hfs hW hn)
 have HG := Lib.hid (fun wx (k : Below w.heap.size w wx) => And.intro (h.below k).c1 (h.below k).c4)
 have HEE := Lib.hid (And.intro hE hFE)
 clear h hE hFE hfs
 by_cases hc : (x.s.freeOp o x.cycle).2.1 = 0
 · have ec : ev A (x.s.freeOp o x.cycle).2.1 = .nilIface := by rw [hc]; rfl
   have E := Lib.hid (show x.freeOp o = ((x.s.freeOp o x.cycle).1, (x.p.inOp o (x.s.freeOp o x.cycle).1).1, { x with s := (x.s.freeOp o x.cycle).2.2, p := (x.p.inOp o (x.s.freeOp o x.cycle).1).2 }) by unfold CS.freeOp; rw [if_neg (by simp [hc])])
   clear hc
   go_enter Tryz.func101, Tryz.ntmps101
   go_wp2_with fail
   go_region_held3 (fun wx => wx.cell? ⟨cb, 1, none⟩ = some (.pointer (some ⟨K.sb, 0, none⟩)) ∧ wx.cell? ⟨cb, 4, none⟩ = some (.int .i64 x.cycle)) (first | exact ⟨H1.out.c1, H1.out.c4⟩ | exact HG.out _ ((Below.refl _ _).drewN _) | exact HG.out _ (Below.refl _ _))
     ((go_at_call 149; refine (HF.out _ ((Below.refl _ _).drewN 1)).mono ?_; rintro e w1 ⟨rfl, h⟩; rw [ec]; have H1 := Lib.hid ((H0.out.drewN 1).stakes (Nat.le_add_right n _) h); clear h))
   have d0 := H1.out.c0
   go_wp2_with fail
   refine (purse_In A S K.pb x.p o (x.s.freeOp o x.cycle).1 _ (H1.out.errs HEE.out.1 HEE.out.2) h2 h6 H1.out.ch.purse).mono ?_
   rintro e w2 ⟨rfl, h⟩
   have H2 := Lib.hid (H1.out.purse h); clear h
   go_wp2_with fail
   go_ret2
   exact ⟨by rw [E.out]; rfl, by rw [E.out]; exact ⟨_, H2.out⟩⟩
 · have ec : ev A (x.s.freeOp o x.cycle).2.1 = .iface 288 (.pointer (some (A (x.s.freeOp o x.cycle).2.1))) := ev_some A hc
   have E := Lib.hid (show x.freeOp o = (0, (x.s.freeOp o x.cycle).2.1, { x with s := (x.s.freeOp o x.cycle).2.2 }) by unfold CS.freeOp; rw [if_pos hc])
   clear hc
   go_enter Tryz.func101, Tryz.ntmps101
   go_wp2_with fail
   go_region_held3 (fun wx => wx.cell? ⟨cb, 1, none⟩ = some (.pointer (some ⟨K.sb, 0, none⟩)) ∧ wx.cell? ⟨cb, 4, none⟩ = some (.int .i64 x.cycle)) (first | exact ⟨H1.out.c1, H1.out.c4⟩ | exact HG.out _ ((Below.refl _ _).drewN _) | exact HG.out _ (Below.refl _ _))
     ((go_at_call 149; refine (HF.out _ ((Below.refl _ _).drewN 1)).mono ?_; rintro e w1 ⟨rfl, h⟩; rw [ec]; have H1 := Lib.hid ((H0.out.drewN 1).stakes (Nat.le_add_right n _) h); clear h))
   go_wp2_with fail
   go_ret2
   exact ⟨by rw [E.out, ec]; rfl, by rw [E.out]; exact ⟨_, H1.out⟩⟩
end
end Go.Proofs.YtajnfkmkombajaaGreatDoor
namespace Go.Proofs.YtajnfkmkombajaaGreatDoor
open Go.RowKit
def CheckPost (A : Nat → Addr) (f : Nat × Int) (w : World) (e : Ending) (w' : World) : Prop := ∃ v, e = .returned v ∧ ErrIs A w w' v f ∧ Below w.heap.size w w'
theorem check_close {A : Nat → Addr} {f : Nat × Int} {c k g : Nat} {w W : World} (hf : f = (c, (k : Int))) (hg : w.heap.size ≤ g) (hb : Below w.heap.size w W) (c1 : W.cell? ⟨g, 0, none⟩ = some (.int .i64 k)) (c2 : W.cell? ⟨g, 1, none⟩ = some (ev A c)) :
   CheckPost A f w (.returned (.iface 119 (.pointer (some ⟨g, 0, none⟩)))) W := by
 subst hf
 exact ⟨_, rfl, .inr ⟨by simp, g, hg, rfl, c1, c2⟩, hb⟩
set_option maxHeartbeats 1000000 in
theorem part_Check (A : Nat → Addr) (S : List Nat) (ao : Option Addr) (len cap : Nat) (l : List (Int × Int)) (w : World) (R : RdP w ao len cap l) (hE : Errs A S w) (h2 : 2 ∈ S) (h3 : 3 ∈ S) :
   Calls Tryz.prog 240 #[.slice ao len cap] w (CheckPost A (checkF l) w) := by
 have HE := Lib.hid hE; clear hE
 by_cases hlen : len < 2 ∨ 8 < len
 · have HF := Lib.hid (checkF_out (l := l) (by rw [R.size]; exact hlen))
   have g3 : w.cell? ⟨11, 0, none⟩ = some (.iface 288 (.pointer (some (A 3)))) := HE.out.cell 3 h3
   clear R
   by_cases h1 : len < 2
   · have e1 : decide ((len : Int) < 2) = true := by simp; omega
     clear hlen
     go_enter Tryz.func240, Tryz.ntmps240
     go_wp2
     go_ret
     exact ⟨_, rfl, .inl ⟨by rw [HF.out], by rw [HF.out]; rfl⟩, Below.refl _ _⟩
   · have e1 : decide ((len : Int) < 2) = false := by simp; omega
     have e2 : decide ((8 : Int) < (len : Int)) = true := by simp; omega
     clear hlen
     go_enter Tryz.func240, Tryz.ntmps240
     go_wp2
     go_ret
     exact ⟨_, rfl, .inl ⟨by rw [HF.out], by rw [HF.out]; rfl⟩, Below.refl _ _⟩
 · rcases R.split with ⟨h0, _⟩ | ⟨h0, b, off, rfl, hb, hcell⟩
   · omega
   have e1 : decide ((len : Int) < 2) = false := by simp; omega
   have e2 : decide ((8 : Int) < (len : Int)) = false := by simp; omega
   have hl8 : (len : Int) ≤ 8 := by omega
   have Hck := Lib.hid (checkF_in (l := l) (by rw [R.size]; exact hlen))
   have Hc := Lib.hid hcell; clear hcell
   have HR := Lib.hid R; clear R
   clear hlen
   go_enter Tryz.func240, Tryz.ntmps240
   go_wp2
   go_loopw [16] (fun i wr => ∃ k : Nat, k ≤ len ∧ i = .int .i64 k ∧ Below w.heap.size w wr ∧ checkF l = chk k (prevX l k) (l.drop k)) (fun i _ => len - (intOf i).toNat)
   case atStart => exact ⟨0, Nat.zero_le _, rfl, Below.refl _ _, Hck.out⟩
   case round =>
     obtain ⟨k, hk, rfl, hbel, hck⟩ := hrel
     have HCk := Lib.hid hck; clear hck
     by_cases hlt : k < len
     · obtain ⟨c1, c2⟩ := Hc.out k hlt
       rw [← hbel.cell (p := ⟨b, off + k * 2, none⟩) hb] at c1
       rw [← hbel.cell (p := ⟨b, off + k * 2 + 1, none⟩) hb] at c2
       have hbs : b < wr.heap.size := Nat.lt_of_lt_of_le hb hbel.size
       have hEr := HE.out.below hbel
       have g2 : wr.cell? ⟨0, 0, none⟩ = some (.iface 288 (.pointer (some (A 2)))) := hEr.cell 2 h2
       have g3 : wr.cell? ⟨11, 0, none⟩ = some (.iface 288 (.pointer (some (A 3)))) := hEr.cell 3 h3
       have s2 := World.block_lt_of_cell? wr _ g2
       have s3 := World.block_lt_of_cell? wr _ g3
       simp only at s2 s3
       have HEr := Lib.hid hEr; clear hEr
       have hllen : k < l.length := by rw [HR.out.size]; exact hlt
       have Hbad := Lib.hid (chk_bad hllen)
       have Hshape := Lib.hid (chk_shape hllen)
       have Hnext := Lib.hid (chk_next hllen)
       clear hllen
       obtain ⟨p, hp⟩ : ∃ p, p = l.getD k (0, 0) := ⟨_, rfl⟩
       rw [← hp] at c1 c2 Hbad Hshape Hnext
       have Hp := Lib.hid hp; clear hp
       obtain ⟨x, y⟩ := p
       simp only at c1 c2
       rcases ptBad_cases (x := x) (y := y) with hx | hx | hx | hx | hx
       · have HPB : Hid (ptBad (x, y)) := .inl (by omega)
         go_wp2
         go_ret
         exact check_close (by rw [HCk.out, Hbad.out HPB.out]) (g := wr.heap.size + 1) (by have := hbel.size; omega) ((hbel.alloc hbel.size _).alloc (by have := hbel.size; simp; omega) _) (by simp [go_sem]) (by simp [go_sem, ev])
       · have HPB : Hid (ptBad (x, y)) := .inr (.inl (by omega))
         go_wp2
         go_ret
         exact check_close (by rw [HCk.out, Hbad.out HPB.out]) (g := wr.heap.size + 1) (by have := hbel.size; omega) ((hbel.alloc hbel.size _).alloc (by have := hbel.size; simp; omega) _) (by simp [go_sem]) (by simp [go_sem, ev])
       · have HPB : Hid (ptBad (x, y)) := .inr (.inr (.inl (by omega)))
         go_wp2
         go_ret
         exact check_close (by rw [HCk.out, Hbad.out HPB.out]) (g := wr.heap.size + 1) (by have := hbel.size; omega) ((hbel.alloc hbel.size _).alloc (by have := hbel.size; simp; omega) _) (by simp [go_sem]) (by simp [go_sem, ev])
       · have HPB : Hid (ptBad (x, y)) := .inr (.inr (.inr (by omega)))
         go_wp2
         go_ret
         exact check_close (by rw [HCk.out, Hbad.out HPB.out]) (g := wr.heap.size + 1) (by have := hbel.size; omega) ((hbel.alloc hbel.size _).alloc (by have := hbel.size; simp; omega) _) (by simp [go_sem]) (by simp [go_sem, ev])
       · have HPB : Hid (¬ ptBad (x, y)) := fun h => by rcases h with h | h | h | h <;> simp only at h <;> omega
         by_cases hk0 : k = 0
         · have HN := Lib.hid (Hnext.out HPB.out (.inl hk0))
           subst hk0
           simp only [Nat.zero_mul, Nat.add_zero] at c1 c2
           go_wp2_with fail
           go_quiet (fail)
           go_wp2
           go_roundw
           case rel => exact ⟨1, by omega, rfl, ((hbel.alloc hbel.size _)).drewN _, by rw [HCk.out, HN.out]⟩
           case measure => simp [intOf]; omega
         · obtain ⟨d1, _⟩ := Hc.out (k - 1) (by omega)
           rw [← hbel.cell (p := ⟨b, off + (k - 1) * 2, none⟩) hb] at d1
           have hk1 : (0 : Int) < (k : Int) := by omega
           have hk1n : 0 < k := by omega
           have hd0 : decide (0 < k) = true := by simp; omega
           have i1 : (0 : Int) ≤ (k : Int) - 1 := by omega
           have i2 : (k : Int) - 1 < (len : Int) := by omega
           obtain ⟨z, hz⟩ : ∃ z, z = (l.getD (k - 1) (0, 0)).1 := ⟨_, rfl⟩
           rw [← hz] at d1
           by_cases hxz : x ≤ z
           · have HS := Lib.hid (Hshape.out HPB.out (by omega) (by rw [← hz]; exact hxz))
             clear hz
             go_wp2_with fail
             go_quiet (fail)
             go_wp2
             go_ret
             exact check_close (by rw [HCk.out, HS.out]) (g := wr.heap.size + 1) (by have := hbel.size; omega) (((hbel.alloc hbel.size _).alloc (by have := hbel.size; simp; omega) _).drewN _) (by simp [go_sem]) (by simp [go_sem, ev])
           · have HN := Lib.hid (Hnext.out HPB.out (.inr (by rw [← hz]; simp only; omega)))
             clear hz
             go_wp2_with fail
             go_quiet (fail)
             go_wp2
             go_roundw
             case rel => exact ⟨k + 1, by omega, by go_num, ((hbel.alloc hbel.size _)).drewN _, by rw [HCk.out, HN.out]⟩
             case measure => simp [intOf]; omega
     · go_wp2
       go_ret
       exact ⟨_, rfl, .inl ⟨by rw [HCk.out, chk_done (by rw [HR.out.size]; omega)], by rw [HCk.out, chk_done (by rw [HR.out.size]; omega)]; rfl⟩, hbel⟩
end Go.Proofs.YtajnfkmkombajaaGreatDoor
namespace Go.Proofs.YtajnfkmkombajaaGreatDoor
open Go.RowKit
theorem tmod_form (a b : Int) (hb : 1 ≤ b) : a.tmod b = a % b - if 0 ≤ a ∨ b ∣ a then 0 else b := by
 rw [Int.tmod_eq_emod]; split <;> simp [Int.natAbs_of_nonneg (show 0 ≤ b by omega)]
theorem down_neg {a b : Int} (hb : 1 ≤ b) (hz : a.tmod b < 0) : a.tdiv b - 1 = a / b := by
 have hm := tmod_form a b hb
 have hnn := Int.emod_nonneg a (show b ≠ 0 by omega)
 rw [Int.tdiv_eq_ediv]
 split
 · rename_i hc; rw [if_pos hc] at hm; omega
 · rw [Int.sign_eq_one_of_pos (by omega)]; omega
theorem down_pos {a b : Int} (hb : 1 ≤ b) (hz : ¬ a.tmod b < 0) : a.tdiv b = a / b := by
 have hm := tmod_form a b hb
 have hlt := Int.emod_lt_of_pos a (show 0 < b by omega)
 rw [Int.tdiv_eq_ediv]
 split
 · omega
 · rename_i hc; rw [if_neg hc] at hm; omega
theorem part_down (a b : Int) (w : World) (hb : 1 ≤ b) (h1 : -1000000000000 ≤ a) (h2 : a ≤ 1000000000000) :
   Calls Tryz.prog 241 #[.int .i64 a, .int .i64 b] w fun e w' => e = .returned (.int .i64 (a / b)) ∧ w = w' := by
 have hbz : (b = 0) = False := by simp; omega
 have hx : (a.tdiv b).natAbs ≤ a.natAbs := by rw [Int.natAbs_tdiv]; exact Nat.div_le_self _ _
 have e0 : IntKind.i64.wrap (a.tdiv b) = a.tdiv b := IntWalk.i64_in _ ⟨by omega, by omega⟩
 have e1 : wrap64 (a.tdiv b) = a.tdiv b := IntWalk.wrap64_in _ ⟨by omega, by omega⟩
 have e2 : IntKind.i64.wrap (a.tdiv b - 1) = a.tdiv b - 1 := IntWalk.i64_in _ ⟨by omega, by omega⟩
 clear hx
 by_cases hz : a.tmod b < 0
 · have E2 := Lib.hid (down_neg hb hz)
   go_enter Tryz.func241, Tryz.ntmps241
   go_wp2
   go_ret
   exact ⟨by rw [← E2.out]; rfl, rfl⟩
 · have E2 := Lib.hid (down_pos hb hz)
   have hd : decide (a.tmod b < 0) = false := by simp only [decide_eq_false_iff_not]; exact hz
   clear hz
   go_enter Tryz.func241, Tryz.ntmps241
   go_wp2
   go_ret
   exact ⟨by rw [← E2.out]; rfl, rfl⟩
def BendPost (A : Nat → Addr) (l : List (Int × Int)) (x : Int) (w : World) (e : Ending) (w' : World) : Prop :=
 ∃ v, e = .returned (.tuple #[.int .i64 (if (bendF l x).1 = 0 then bendV l x else 0), v]) ∧ ErrIs A w w' v (bendF l x) ∧ Below w.heap.size w w'
theorem bend_close {A : Nat → Addr} {l : List (Int × Int)} {x n : Int} {w W : World} (hf : (checkF l).1 = 0) (h0 : 0 ≤ x) (h1 : x ≤ 1000000) (hn : bendV l x = n) (hb : Below w.heap.size w W) : BendPost A l x w (.returned (.tuple #[.int .i64 n, .nilIface])) W := by
 have e : bendF l x = (0, -1) := by unfold bendF; rw [if_neg (by simp [hf]), if_neg (by omega)]
 exact ⟨_, by rw [e, hn]; rfl, .inl ⟨by rw [e], by rw [e]; rfl⟩, hb⟩
set_option maxHeartbeats 1000000 in
theorem bend_ok (A : Nat → Addr) (S : List Nat) (b off len cap : Nat) (l : List (Int × Int)) (x : Int) (w : World) (R : RdP w (some ⟨b, off, none⟩) len cap l) (hE : Errs A S w) (h2 : 2 ∈ S) (h3 : 3 ∈ S)
   (hf : (checkF l).1 = 0) (h0 : 0 ≤ x) (h1 : x ≤ 1000000) :
   Calls Tryz.prog 223 #[.slice (some ⟨b, off, none⟩) len cap, .int .i64 x] w (BendPost A l x w) := by
 have B := check_ok hf
 have hlen : 2 ≤ len := by rw [← R.size]; exact B.two
 have hlen8 : len ≤ 8 := by rw [← R.size]; exact B.eight
 have hlc := R.lc
 have HC := part_Check A S _ _ _ _ _ R hE h2 h3
 rw [checkF_zero hf] at HC
 have HC2 : Hid (Calls Tryz.prog 240 #[.slice (some ⟨b, off, none⟩) len cap] w fun e w' => e = .returned .nilIface ∧ Below w.heap.size w w') := HC.mono fun e w' ⟨v, he, hi, hb⟩ => by
   rcases hi with ⟨_, hv⟩ | ⟨hn, _⟩
   · exact ⟨by rw [he, hv]; rfl, hb⟩
   · simp at hn
 clear HC
 obtain ⟨_, b', off', ha, hb, hcell⟩ := (R.split).resolve_left (by omega)
 cases ha
 have Hc := Lib.hid hcell; clear hcell
 have HB := Lib.hid B; clear B
 have HF := Lib.hid hf; clear hf
 have HR := Lib.hid R; clear R
 obtain ⟨z1, z2⟩ := Hc.out 0 (by omega)
 simp only [Nat.zero_mul, Nat.add_zero] at z1 z2
 have hln : (0 : Int) < (len : Int) := by omega
 have i1 : (0 : Int) ≤ (len : Int) - 1 := by omega
 have i2 : (len : Int) - 1 ≤ (cap : Int) := by omega
 have i3 : (len : Int) - 1 < (len : Int) := by omega
 have e1 : ((len : Int) - 1).toNat = len - 1 := by omega
 obtain ⟨p0, hp0⟩ : ∃ p0, p0 = l.getD 0 (0, 0) := ⟨_, rfl⟩
 rw [← hp0] at z1 z2
 have Hp0 := Lib.hid hp0; clear hp0
 by_cases hx0 : x < p0.1
 · have HV : Hid (bendV l x = p0.2) := (by unfold bendV; rw [← Hp0.out, if_pos hx0] : bendV l x = p0.2)
   go_enter Tryz.func223, Tryz.ntmps223
   go_wp2_with (go_at_call 240; refine HC2.out.mono ?_; rintro e w1 ⟨rfl, hb1⟩; rw [← hb1.cell (p := ⟨b, off, none⟩) hb] at z1; rw [← hb1.cell (p := ⟨b, off + 1, none⟩) hb] at z2)
   go_ret2
   exact bend_close HF.out h0 h1 HV.out hb1
 · have HV : Hid (bendV l x = bendGo (l.drop 0) x) := (by unfold bendV; rw [← Hp0.out, if_neg hx0]; rfl : bendV l x = bendGo (l.drop 0) x)
   go_enter Tryz.func223, Tryz.ntmps223
   go_wp2_with (go_at_call 240; refine HC2.out.mono ?_; rintro e w1 ⟨rfl, hb1⟩; rw [← hb1.cell (p := ⟨b, off, none⟩) hb] at z1; rw [← hb1.cell (p := ⟨b, off + 1, none⟩) hb] at z2)
   have Hb1 := Lib.hid hb1
   go_loopw [38] (fun i wr => ∃ k : Nat, k + 1 ≤ len ∧ i = .int .i64 k ∧ Below w.heap.size w wr ∧ bendV l x = bendGo (l.drop k) x) (fun i _ => len - (intOf i).toNat)
   case atStart => exact ⟨0, by omega, rfl, Hb1.out, HV.out⟩
   case round =>
     obtain ⟨k, hk, rfl, hbel, hv⟩ := hrel
     have Hv := Lib.hid hv; clear hv
     have Hbel := Lib.hid hbel; clear hbel
     have hbs : b < wr.heap.size := Nat.lt_of_lt_of_le hb Hbel.out.size
     have carry : ∀ o, wr.cell? ⟨b, o, none⟩ = w.cell? ⟨b, o, none⟩ := fun o => Hbel.out.cell (p := ⟨b, o, none⟩) hb
     have Hcarry := Lib.hid carry; clear carry
     by_cases hlt : k + 1 < len
     · obtain ⟨c1, c2⟩ := Hc.out k (by omega)
       obtain ⟨d1, d2⟩ := Hc.out (k + 1) hlt
       rw [← Hcarry.out] at c1 c2 d1 d2
       have HX := Lib.hid (bendGo_here (l := l) (k := k) (x := x) (by rw [HR.out.size]; exact hlt))
       have HY := Lib.hid (bendGo_step (l := l) (k := k) (x := x) (by rw [HR.out.size]; exact hlt))
       have gp := HB.out.good k (by rw [HR.out.size]; omega)
       have gq := HB.out.good (k + 1) (by rw [HR.out.size]; omega)
       have hr := HB.out.rise k (by rw [HR.out.size]; omega)
       obtain ⟨p, hp⟩ : ∃ p, p = l.getD k (0, 0) := ⟨_, rfl⟩
       obtain ⟨q, hq⟩ : ∃ q, q = l.getD (k + 1) (0, 0) := ⟨_, rfl⟩
       rw [← hp] at c1 c2 HX gp hr
       rw [← hq] at d1 d2 HX HY gq hr
       have hm := bend_mul gp gq h0 h1
       obtain ⟨px, py⟩ := p
       obtain ⟨qx, qy⟩ := q
       simp only [ptBad, not_or, Int.not_lt] at gp gq
       simp only at c1 c2 d1 d2 hr hm
       have Hp := Lib.hid hp; have Hq := Lib.hid hq
       clear hp hq
       obtain ⟨gp1, gp2, gp3, gp4⟩ := gp
       obtain ⟨gq1, gq2, gq3, gq4⟩ := gq
       obtain ⟨hm1, hm2⟩ := hm
       have j1 : (k : Int) < (len : Int) - 1 := by omega
       have j2 : k < len - 1 := by omega
       have j3 : (k : Int) + 1 < (len : Int) := by omega
       have hmw : IntKind.i64.wrap ((qy - py) * (x - px)) = (qy - py) * (x - px) := IntWalk.i64_in _ ⟨by omega, by omega⟩
       by_cases hx : x < qx
       · have HZ := Lib.hid (HX.out hx)
         have hdw := part_down ((qy - py) * (x - px)) (qx - px)
         have Hdw := Lib.hid hdw; clear hdw
         have hq1 : 1 ≤ qx - px := by omega
         have hD1 : (-1000000000000 : Int) ≤ ((qy - py) * (x - px)) / (qx - px) ∧ ((qy - py) * (x - px)) / (qx - px) ≤ 1000000000000 := by
           have := Int.natAbs_ediv_le_natAbs ((qy - py) * (x - px)) (qx - px)
           omega
         obtain ⟨hD2, hD3⟩ := hD1
         obtain ⟨M, hM⟩ : ∃ M, M = (qy - py) * (x - px) := ⟨_, rfl⟩
         rw [← hM] at hmw hm1 hm2 hD2 hD3 Hdw HZ
         have hMe : (qy - py) * (x - px) = M := hM.symm
         clear hM
         go_wp2_with fail
         go_quiet ((go_at_call 241; exact Calls.quiet_of_same ((Hdw.out _ hq1 hm1 hm2).mono fun _ _ ⟨a, b⟩ => ⟨a, b.symm⟩)))
         go_wp2
         go_ret2
         exact bend_close HF.out h0 h1 (n := py + M / (qx - px)) (by rw [Hv.out, HZ.out]) (((Hbel.out.alloc Hbel.out.size _).alloc (by have := Hbel.out.size; simp; omega) _).drewN _)
       · have HZ := Lib.hid (HY.out (by simpa using hx))
         go_wp2
         go_roundw
         case rel => exact ⟨k + 1, by omega, by go_num, (Hbel.out.alloc Hbel.out.size _).alloc (by have := Hbel.out.size; simp; omega) _, by rw [Hv.out, HZ.out]⟩
         case measure => simp [intOf]; omega
     · have hke : k + 1 = len := by omega
       have Hke := Lib.hid hke; clear hke
       obtain ⟨c1, c2⟩ := Hc.out k (by omega)
       rw [← Hcarry.out] at c1 c2
       have ek : len - 1 = k := by have := Hke.out; omega
       have HL := Lib.hid (bendGo_last (l := l) (k := k) (x := x) (by rw [HR.out.size]; exact Hke.out))
       have j1 : ¬ (k : Int) < (len : Int) - 1 := by have := Hke.out; omega
       go_wp2
       go_ret2
       exact bend_close HF.out h0 h1 (n := (l.getD k (0, 0)).2) (by rw [Hv.out, HL.out]) Hbel.out
end Go.Proofs.YtajnfkmkombajaaGreatDoor
