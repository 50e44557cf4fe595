/-
  The document's stakes in memory: Slash.
  The document's stakes in memory: Free.
  The document's stakes in memory: Free, all ways.
  The document's stakes in memory: NewStakes.
  The document's stakes in memory: a new pool is laid at a baker's place.
  The document's stakes in memory: Register.
  The document's stakes in memory: Register.
  The document's CopyPool; a row of the call's own as the head of a block; one place of such a row is written.
-/
import Derived.Test.YtajnfkmkombajaaGreatDoorQSP25
import Derived.Deep.RegionHeld3
import Derived.Test.YtajnfkmkombajaaGreatDoorQSP07
import Derived.Deep.RegionWith
import Derived.Test.YtajnfkmkombajaaGreatDoorQSP24
import Derived.Test.YtajnfkmkombajaaGreatDoorQSP17
import Derived.Test.YtajnfkmkombajaaGreatDoorQSP13
import Derived.Deep.AppendLies
import Derived.Deep.RegionLaw
set_option linter.unusedVariables false
set_option linter.unusedSimpArgs false
set_option linter.unusedVariables false
namespace Go.Proofs.YtajnfkmkombajaaGreatDoor
open Go.RowKit Go.Maps
theorem RStL.rd' {sb : Nat} {L : RLay} {ao : Option Addr} {n cap : Nat} {s : SS} {w : World} (h : RStL sb L (.slice ao n cap) s w) : n = s.W.length ∧ RdR (waitE L) 3 w ao s.W.length cap s.W.zipIdx := by
 obtain ⟨ao', cap', e, R⟩ := h.rd
 cases e
 exact ⟨rfl, R⟩
def losK (s : SS) (k f p : Int) (i : Nat) : Int := ((s.W.take i).map (·.loses k f p)).sum
theorem losK_step {s : SS} {k f p : Int} {i : Nat} {x : WP} (hx : s.W[i]? = some x) : losK s k f p (i + 1) = losK s k f p i + x.loses k f p := by
 unfold losK
 rw [List.take_add_one, hx, List.map_append, List.sum_append]
 simp
theorem WP.loses_bdr {x : WP} (h : x.q.Ok) (k f p : Int) : 0 ≤ x.loses k f p ∧ x.loses k f p ≤ 1125899906842624 := by
 unfold WP.loses
 split
 · exact (QS.slash_total h p).2.1
 · simp
theorem losK_bd {s : SS} (h : s.Ok) (k f p : Int) : ∀ {i : Nat}, i ≤ s.W.length → 0 ≤ losK s k f p i ∧ losK s k f p i ≤ i * 1125899906842624
 | 0, _ => by simp [losK]
 | i + 1, hi => by
   have h1 := losK_bd h k f p (i := i) (by omega)
   have hx : s.W[i]? = some s.W[i] := List.getElem?_eq_getElem (by omega)
   have h2 := WP.loses_bdr (h.waits s.W[i] (List.getElem_mem _)).1 k f p
   rw [losK_step hx]
   omega
theorem losK_all (s : SS) (k f p : Int) : losK s k f p s.W.length = (s.W.map (·.loses k f p)).sum := by
 unfold losK; rw [List.take_of_length_le (Nat.le_refl _)]
set_option maxRecDepth 8000 in
set_option maxHeartbeats 1600000 in
theorem refs_Slash (sb : Nat) (F : Nat → Prop) (s : SS) (w : World) (k f p : Int) (h : RStAt sb F s w) (hW : s.W.length ≤ 8000) :
   Calls Tryz.prog 134 #[.pointer (some ⟨sb, 0, none⟩), .int .i64 k, .int .i64 f, .int .i64 p] w fun e w' => e = .returned (.tuple #[.int .i64 (s.slashOp k f p).1, .int .i64 (s.slashOp k f p).2.1]) ∧ RStP sb F (s.slashOp k f p).2.2 w w' := by
 have HA := Lib.hid h
 obtain ⟨L, wv, hL, hF, hlt⟩ := h
 have HI := Lib.hid (refs_Is sb L wv s k w hL)
 have HFL := Lib.hid (And.intro hF hlt)
 by_cases hi : s.is k = true
 · obtain ⟨j, q, rfl, hj, hq, hr, hp⟩ := hL.yes hi
   have t0 := hL.top.cell 0
   simp only [List.getElem?_cons_zero] at t0
   have hqo := hL.ok.poolOk hq
   obtain ⟨-, ⟨n0, n1⟩, hbad, -⟩ := QS.slash_total hqo p
   have hq1 := QS.slashOp_ok hqo p
   obtain ⟨pj, rb, rs⟩ := hL.poo j q hr
   have HJ := Lib.hid (refq_Slash (L.pb j) (L.ps j) (L.pc j) q p w pj)
   rw [hi] at HI
   have HL := Lib.hid hL
   have HRQ := Lib.hid hr
   have HPK := Lib.hid (fun (w' : World) (hP : Keep (fun k => k = L.pb j ∨ k = L.ps j) w w') => hP.mono (G := F) (fun b hb => by
     rcases hb with rfl | rfl
     · exact hF _ (by rw [rb]; simp)
     · exact hF _ (by rw [rs]; simp)))
   by_cases hc : (q.slashOp p).2.1 = 0
   · have e : s.slashOp (j : Int) f p = ((q.slashOp p).1 + (s.W.map (·.loses (j : Int) f p)).sum, 0, ⟨s.P.set j (some (q.slashOp p).2.2), s.W.map (·.slash (j : Int) f p)⟩) := by
       unfold SS.slashOp; rw [hq]; simp [hc]
     rw [e]
     rw [hc] at HJ
     have HS1 := Lib.hid (fun w' (hP : RPoolP (L.pb j) (L.ps j) (L.pc j) (q.slashOp p).2.2 w w') => hL.pool (s' := s.setP (j : Int) (q.slashOp p).2.2) hr hP (hL.ok.setP (by omega) (by omega) hq1) (SS.rget_setP hL.ok hj _) rfl rfl)
     obtain ⟨ao, cap, rfl, R⟩ := hL.rd
     have HO := Lib.hid hL.ok
     generalize hs1 : s.setP (j : Int) (q.slashOp p).2.2 = s1 at HS1
     have hs1W : s1.W = s.W := by rw [← hs1]; rfl
     have HS1P := Lib.hid (show (SS.mk (s.P.set j (some (q.slashOp p).2.2)) (s.W.map (·.slash (j : Int) f p))) = ⟨s1.P, s.W.map (·.slash (j : Int) f p)⟩ by rw [← hs1]; rfl)
     rw [HS1P.out, ← losK_all]
     have HS1W := Lib.hid hs1W
     generalize (q.slashOp p).1 = nn at *
     generalize hlen : s.W.length = len at *
     have HLEN := Lib.hid hlen
     clear hL hF hlt hi hq hr e hc hbad hqo hq1 pj rb rs hs1 hs1W R hlen HS1P
     go_enter Tryz.func134, Tryz.ntmps134
     go_wp2_with fail
     refine HI.out.mono ?_
     rintro e w1 ⟨rfl, rfl⟩
     go_wp2_with fail
     refine HJ.out.mono ?_
     rintro e w1 ⟨rfl, hP⟩
     have H1 := Lib.hid (HS1.out _ hP); have HK1 := Lib.hid (HPK.out _ hP.1); clear hP
     go_wp2_with fail
     go_loopg [11, 13, 14, 15] len (fun g n i a b wr => ∃ t : Nat, RStL sb L (.slice ao len cap) ⟨s1.P, partW (·.slash (j : Int) f p) s.W t⟩ wr ∧ Keep F w wr ∧ g + t = len ∧ i = .int .i64 t ∧ n = .int .i64 (nn + losK s j f p t))
     case atStart => exact ⟨0, by rw [partW_zero, ← HS1W.out]; exact H1.out, HK1.out, rfl, rfl, by rw [show losK s j f p 0 = 0 from rfl, Int.add_zero]⟩
     case round =>
       obtain ⟨t, hst, hk, hg, rfl, rfl⟩ := hrel
       have HST := Lib.hid hst; have HK := Lib.hid hk; have HG := Lib.hid hg; clear hst hk hg H1 HK1
       have t1 := HST.out.top.cell 1
       simp only [List.getElem?_cons_zero, List.getElem?_cons_succ] at t1
       by_cases hlt : t < len
       · obtain ⟨x, hx⟩ : ∃ x, s.W[t]? = some x := ⟨_, List.getElem?_eq_getElem (by rw [HLEN.out]; exact hlt)⟩
         have hcur : (partW (·.slash (j : Int) f p) s.W t)[t]? = some x := partW_here hx
         obtain ⟨bb, off, rfl, hbl, hcs⟩ := HST.out.rd'.2.cells t _ (zip_get hcur)
         have c0 := hcs 0 (by decide)
         have c1 := hcs 1 (by decide)
         have c2 := hcs 2 (by decide)
         simp only [waitE, List.getElem?_cons_zero, List.getElem?_cons_succ, Nat.add_zero] at c0 c1 c2
         obtain ⟨p1, p2, p3⟩ := HST.out.poo (t + 3) x.q (by rw [SS.rget_wait]; show ((partW (·.slash (j : Int) f p) s.W t)[t]?).map _ = _; rw [hcur]; rfl)
         have HQ := Lib.hid (refq_Slash (L.pb (t + 3)) (L.ps (t + 3)) (L.pc (t + 3)) x.q p _ p1)
         have HPF := Lib.hid (fun b (hb : b = L.pb (t + 3) ∨ b = L.ps (t + 3)) => show F b by
           rcases hb with rfl | rfl
           · exact HFL.out.1 _ (by rw [p2]; simp)
           · exact HFL.out.1 _ (by rw [p3]; simp))
         obtain ⟨b3, b4⟩ := losK_bd HO.out j f p (i := t) (by rw [HLEN.out]; omega)
         obtain ⟨b5, b6⟩ := WP.loses_bdr (HO.out.waits x (List.mem_of_getElem? hx)).1 (j : Int) f p
         have HLS := Lib.hid (losK_step (k := (j : Int)) (f := f) (p := p) hx)
         have HX := Lib.hid hx; have HCUR := Lib.hid hcur
         clear hcs hbl hx hcur p1 p2 p3
         generalize losK s j f p t = v at *
         by_cases hit : x.hit j f = true
         · have hl : x.loses (j : Int) f p = (x.q.slashOp p).1 := by unfold WP.loses; rw [if_pos hit]
           have HSX := Lib.hid (show x.slash (j : Int) f p = ⟨x.b, x.c, (x.q.slashOp p).2.2⟩ by unfold WP.slash; rw [if_pos hit])
           unfold WP.hit at hit
           have e1 : (x.b == (j : Int)) = true := by revert hit; cases (x.b == (j : Int)) <;> simp
           have e2 : decide (f ≤ x.c) = true := by revert hit; cases (decide (f ≤ x.c)) <;> simp
           rw [hl] at HLS b5 b6
           clear hit hl
           generalize (x.q.slashOp p).1 = u at *
           go_wp2_with fail
           refine HQ.out.mono ?_
           rintro e w2 ⟨rfl, hP⟩
           have HP := Lib.hid hP; clear hP
           go_wp2_with fail
           have hg := HG.out
           have hnext := HST.out.wait HCUR.out HP.out
           rw [← HSX.out, partW_step HX.out] at hnext
           go_roundg (len - (t + 1))
           case measure => omega
           case rel => exact ⟨t + 1, hnext, HK.out.trans (HP.out.1.mono HPF.out), by omega, by go_num, by rw [HLS.out, ← Int.add_assoc]⟩
         · have hl : x.loses (j : Int) f p = 0 := by unfold WP.loses; rw [if_neg hit]
           have hsx : x.slash (j : Int) f p = x := by unfold WP.slash; rw [if_neg hit]
           have hnext := HST.out
           rw [← partW_same HX.out hsx] at hnext
           have HNX := Lib.hid hnext
           rw [hl, Int.add_zero] at HLS
           unfold WP.hit at hit
           have hcases : (x.b == (j : Int)) = false ∨ ((x.b == (j : Int)) = true ∧ decide (f ≤ x.c) = false) := by
             revert hit; cases (x.b == (j : Int)) <;> cases (decide (f ≤ x.c)) <;> simp
           clear hit hl hsx hnext
           rcases hcases with e1 | ⟨e1, e2⟩
           all_goals (
             go_wp2_with fail
             have hg := HG.out
             go_roundg (len - (t + 1))
             case measure => omega
             case rel => exact ⟨t + 1, HNX.out, HK.out, by omega, by go_num, by rw [HLS.out]⟩)
       · have ht : t = len := by have := HG.out; omega
         subst ht
         have HEnd := Lib.hid HST.out
         go_wp2_with fail
         go_ret2
         have hEnd := HEnd.out
         rw [← HLEN.out, partW_all] at hEnd
         rw [← HLEN.out]
         exact ⟨rfl, HK.out, L, _, hEnd, fun b hb => .inl (HFL.out.1 b hb), grownF_lt HFL.out.2 HK.out.size⟩
   · have e : s.slashOp (j : Int) f p = (0, (q.slashOp p).2.1, s) := by unfold SS.slashOp; rw [hq]; simp [hc]
     have hsame := (hbad hc).2
     rw [e]
     have HS := Lib.hid (fun w' (hP : RPoolP (L.pb j) (L.ps j) (L.pc j) (q.slashOp p).2.2 w w') => hL.pool (s' := s) hr hP hL.ok (fun i => by
       by_cases hij : i = j
       · subst hij; rw [if_pos rfl, hr, hsame]
       · rw [if_neg hij]) rfl rfl)
     have hcp : decide (0 < (q.slashOp p).2.1) = true := by simp; omega
     generalize (q.slashOp p).2.1 = cd at *
     generalize (q.slashOp p).1 = nn at *
     clear hL hF hlt hi hq hr e hc hbad hsame hqo hq1 pj rb rs
     go_enter Tryz.func134, Tryz.ntmps134
     go_wp2_with fail
     refine HI.out.mono ?_
     rintro e w1 ⟨rfl, rfl⟩
     go_wp2_with fail
     refine HJ.out.mono ?_
     rintro e w1 ⟨rfl, hP⟩
     have HP := Lib.hid hP; clear hP
     go_wp2_with fail
     go_ret2
     exact ⟨rfl, HPK.out _ HP.out.1, L, wv, HS.out _ HP.out, fun b hb => .inl (HFL.out.1 b hb), grownF_lt HFL.out.2 HP.out.1.size⟩
 · have hi' : s.is k = false := by simpa using hi
   have e : s.slashOp k f p = (0, 4, s) := by
     unfold SS.is at hi'; unfold SS.slashOp
     rw [Option.isSome_eq_false_iff, Option.isNone_iff_eq_none] at hi'; rw [hi']
   rw [e]
   rw [hi'] at HI
   clear hL hF hlt hi hi' e
   go_enter Tryz.func134, Tryz.ntmps134
   go_wp2_with fail
   refine HI.out.mono ?_
   rintro e w1 ⟨rfl, rfl⟩
   go_wp2_with fail
   go_ret2
   exact ⟨rfl, RStP.of_below HA.out (Below.refl _ _)⟩
end Go.Proofs.YtajnfkmkombajaaGreatDoor
namespace Go.Proofs.YtajnfkmkombajaaGreatDoor
open Go.RowKit Go.Maps
def getK (s : SS) (o c : Int) (i : Nat) : Int := ((s.W.take i).map (·.gets o c)).sum
def hasW (s : SS) (o c : Int) (i : Nat) : Bool := (s.W.take i).any (·.has o c)
theorem getK_step {s : SS} {o c : Int} {i : Nat} {x : WP} (hx : s.W[i]? = some x) : getK s o c (i + 1) = getK s o c i + x.gets o c := by
 unfold getK
 rw [List.take_add_one, hx, List.map_append, List.sum_append]
 simp
theorem hasW_step {s : SS} {o c : Int} {i : Nat} {x : WP} (hx : s.W[i]? = some x) : hasW s o c (i + 1) = (hasW s o c i || x.has o c) := by
 unfold hasW
 rw [List.take_add_one, hx, List.any_append]
 simp
theorem getK_all (s : SS) (o c : Int) : getK s o c s.W.length = (s.W.map (·.gets o c)).sum := by
 unfold getK; rw [List.take_of_length_le (Nat.le_refl _)]
theorem hasW_all (s : SS) (o c : Int) : hasW s o c s.W.length = s.W.any (·.has o c) := by
 unfold hasW; rw [List.take_of_length_le (Nat.le_refl _)]
theorem WP.gets_bdr {x : WP} (h : x.q.Ok) (o c : Int) : 0 ≤ x.gets o c ∧ x.gets o c ≤ 1125899906842624 := by
 have := QS.leave_pos h o
 unfold WP.gets
 split
 · split
   · exact this
   · simp
 · simp
theorem getK_bd {s : SS} (h : s.Ok) (o c : Int) : ∀ {i : Nat}, i ≤ s.W.length → 0 ≤ getK s o c i ∧ getK s o c i ≤ i * 1125899906842624
 | 0, _ => by simp [getK]
 | i + 1, hi => by
   have h1 := getK_bd h o c (i := i) (by omega)
   have hx : s.W[i]? = some s.W[i] := List.getElem?_eq_getElem (by omega)
   have h2 := WP.gets_bdr (h.waits s.W[i] (List.getElem_mem _)).1 o c
   rw [getK_step hx]
   omega
set_option maxRecDepth 8000 in
set_option maxHeartbeats 1600000 in
theorem refs_Free_loop (sb : Nat) (F : Nat → Prop) (s : SS) (w : World) (o c : Int) (h : RStAt sb F s w) (hW : s.W.length ≤ 8000) (hc : 0 ≤ c) (hc1 : c ≤ 1048576) (ho : ownB o = true) :
   Calls Tryz.prog 45 #[.pointer (some ⟨sb, 0, none⟩), .int .i64 o, .int .i64 c] w fun e w' => e = .returned (.tuple #[.int .i64 (s.freeOp o c).1, .int .i64 (s.freeOp o c).2.1]) ∧ RStP sb F (s.freeOp o c).2.2 w w' := by
 obtain ⟨L, wv, hL, hF, hlt⟩ := h
 have HFL := Lib.hid (And.intro hF hlt)
 have hcy : cycleC c = 0 := cycleC_zero.2 ⟨hc, hc1⟩
 have HE := Lib.hid (show s.freeOp o c = (if hasW s o c s.W.length then (getK s o c s.W.length, 0, (⟨s.P, s.W.map (·.left o c)⟩ : SS)) else (0, 4, ⟨s.P, s.W.map (·.left o c)⟩)) by
   unfold SS.freeOp; rw [if_neg (by simp [hcy, ho]), hasW_all, getK_all])
 obtain ⟨ao, cap, rfl, R⟩ := hL.rd
 have HO := Lib.hid hL.ok
 have H1 := Lib.hid hL
 have HOW := Lib.hid (ref_IsOwner o w)
 rw [ho] at HOW
 have x1 : decide (c < 0) = false := by simp; omega
 have x2 : decide (1048576 < c) = false := by simp; omega
 generalize hlen : s.W.length = len at *
 have HLEN := Lib.hid hlen
 clear hL hF hlt R hlen hcy ho
 go_enter Tryz.func45, Tryz.ntmps45
 go_wp2_with fail
 refine HOW.out.mono ?_
 rintro e w1 ⟨rfl, rfl⟩
 go_wp2_with fail
 go_loopg [9, 10, 11, 12, 13] len (fun g n fd i a b wr => ∃ t : Nat, RStL sb L (.slice ao len cap) ⟨s.P, partW (·.left o c) s.W t⟩ wr ∧ Keep F w wr ∧ g + t = len ∧ i = .int .i64 t ∧ n = .int .i64 (getK s o c t) ∧ fd = .bool (hasW s o c t))
 case atStart => exact ⟨0, by rw [partW_zero]; exact H1.out, Keep.refl _ _, rfl, rfl, rfl, rfl⟩
 case round =>
   obtain ⟨t, hst, hk, hg, rfl, rfl, rfl⟩ := hrel
   have HST := Lib.hid hst; have HK := Lib.hid hk; have HG := Lib.hid hg; clear hst hk hg H1
   have t1 := HST.out.top.cell 1
   simp only [List.getElem?_cons_zero, List.getElem?_cons_succ] at t1
   by_cases hlt : t < len
   · obtain ⟨x, hx⟩ : ∃ x, s.W[t]? = some x := ⟨_, List.getElem?_eq_getElem (by rw [HLEN.out]; exact hlt)⟩
     have hcur : (partW (·.left o c) s.W t)[t]? = some x := partW_here hx
     obtain ⟨bb, off, rfl, hbl, hcs⟩ := HST.out.rd'.2.cells t _ (zip_get hcur)
     have c1 := hcs 1 (by decide)
     have c2 := hcs 2 (by decide)
     simp only [waitE, List.getElem?_cons_zero, List.getElem?_cons_succ] at c1 c2
     obtain ⟨p1, p2, p3⟩ := HST.out.poo (t + 3) x.q (by rw [SS.rget_wait]; show ((partW (·.left o c) s.W t)[t]?).map _ = _; rw [hcur]; rfl)
     have HQ := Lib.hid (refq_Leave (L.pb (t + 3)) (L.ps (t + 3)) (L.pc (t + 3)) x.q o _ p1)
     have HPF := Lib.hid (fun b (hb : b = L.pb (t + 3) ∨ b = L.ps (t + 3)) => show F b by
       rcases hb with rfl | rfl
       · exact HFL.out.1 _ (by rw [p2]; simp)
       · exact HFL.out.1 _ (by rw [p3]; simp))
     obtain ⟨b3, b4⟩ := getK_bd HO.out o c (i := t) (by rw [HLEN.out]; omega)
     have HGS := Lib.hid (getK_step (o := o) (c := c) hx)
     have HHS := Lib.hid (hasW_step (o := o) (c := c) hx)
     obtain ⟨b5, b6⟩ := QS.leave_pos (HO.out.waits x (List.mem_of_getElem? hx)).1 o
     have HX := Lib.hid hx; have HCUR := Lib.hid hcur
     clear hcs hbl hx hcur p1 p2 p3
     generalize getK s o c t = v at *
     generalize hasW s o c t = fd at *
     by_cases hfr : x.free c = true
     · have HSX := Lib.hid (show x.left o c = ⟨x.b, x.c, (x.q.leaveOp o).2.2⟩ by unfold WP.left; rw [if_pos hfr])
       have e1 : decide (c - 2 ≤ x.c) = false := by unfold WP.free at hfr; simp at hfr ⊢; omega
       by_cases hz : (x.q.leaveOp o).2.1 = 0
       · have hgt : x.gets o c = (x.q.leaveOp o).1 := by unfold WP.gets; rw [if_pos hfr, if_pos hz]
         have hha : x.has o c = true := by unfold WP.has; rw [hfr, hz]; rfl
         rw [hgt] at HGS
         rw [hha, Bool.or_true] at HHS
         rw [hz] at HQ
         clear hfr hz hgt hha
         generalize (x.q.leaveOp o).1 = u at *
         go_wp2_with fail
         refine HQ.out.mono ?_
         rintro e w2 ⟨rfl, hP⟩
         have HP := Lib.hid hP; clear hP
         go_wp2_with fail
         have hg := HG.out
         have hnext := HST.out.wait HCUR.out HP.out
         rw [← HSX.out, partW_step HX.out] at hnext
         go_roundg (len - (t + 1))
         case measure => omega
         case rel => exact ⟨t + 1, hnext, HK.out.trans (HP.out.1.mono HPF.out), by omega, by go_num, by rw [HGS.out], by rw [HHS.out]⟩
       · have hgt : x.gets o c = 0 := by unfold WP.gets; rw [if_pos hfr, if_neg hz]
         have hha : x.has o c = false := by unfold WP.has; rw [hfr]; simp [hz]
         rw [hgt, Int.add_zero] at HGS
         rw [hha, Bool.or_false] at HHS
         have e3 : ((x.q.leaveOp o).2.1 == 0) = false := by simp [hz]
         clear hfr hgt hha
         generalize (x.q.leaveOp o).1 = u at *
         generalize (x.q.leaveOp o).2.1 = cd at *
         go_wp2_with fail
         refine HQ.out.mono ?_
         rintro e w2 ⟨rfl, hP⟩
         have HP := Lib.hid hP; clear hP
         go_wp2_with fail
         have hg := HG.out
         have hnext := HST.out.wait HCUR.out HP.out
         rw [← HSX.out, partW_step HX.out] at hnext
         go_roundg (len - (t + 1))
         case measure => omega
         case rel => exact ⟨t + 1, hnext, HK.out.trans (HP.out.1.mono HPF.out), by omega, by go_num, by rw [HGS.out], by rw [HHS.out]⟩
     · have hsx : x.left o c = x := by unfold WP.left; rw [if_neg hfr]
       have hgt : x.gets o c = 0 := by unfold WP.gets; rw [if_neg hfr]
       have hf0 : x.free c = false := by simpa using hfr
       have hha : x.has o c = false := by unfold WP.has; rw [hf0]; rfl
       have hnext := HST.out
       rw [← partW_same HX.out hsx] at hnext
       have HNX := Lib.hid hnext
       rw [hgt, Int.add_zero] at HGS
       rw [hha, Bool.or_false] at HHS
       have e1 : decide (c - 2 ≤ x.c) = true := by unfold WP.free at hf0; simp at hf0 ⊢; omega
       clear hfr hsx hgt hf0 hha hnext
       go_wp2_with fail
       have hg := HG.out
       go_roundg (len - (t + 1))
       case measure => omega
       case rel => exact ⟨t + 1, HNX.out, HK.out, by omega, by go_num, by rw [HGS.out], by rw [HHS.out]⟩
   · have ht : t = len := by have := HG.out; omega
     subst ht
     have hEnd := HST.out
     rw [← HLEN.out, partW_all] at hEnd
     have HEnd := Lib.hid hEnd; clear hEnd
     have hfd : hasW s o c t = true ∨ hasW s o c t = false := by cases hasW s o c t <;> simp
     rcases hfd with hfd | hfd
     · rw [hfd]
       have HFD := Lib.hid hfd; clear hfd
       go_wp2_with fail
       go_ret2
       have E2 : s.freeOp o c = (getK s o c t, 0, ⟨s.P, s.W.map (·.left o c)⟩) := by
         have q := HE.out
         try rw [HLEN.out] at q
         rw [q, if_pos HFD.out]
       rw [E2]
       exact ⟨rfl, HK.out, L, _, HEnd.out, fun b hb => .inl (HFL.out.1 b hb), grownF_lt HFL.out.2 HK.out.size⟩
     · rw [hfd]
       have HFD := Lib.hid hfd; clear hfd
       go_wp2_with fail
       go_ret2
       have E2 : s.freeOp o c = (0, 4, ⟨s.P, s.W.map (·.left o c)⟩) := by
         have q := HE.out
         try rw [HLEN.out] at q
         rw [q, if_neg (by rw [HFD.out]; simp)]
       rw [E2]
       exact ⟨rfl, HK.out, L, _, HEnd.out, fun b hb => .inl (HFL.out.1 b hb), grownF_lt HFL.out.2 HK.out.size⟩
end Go.Proofs.YtajnfkmkombajaaGreatDoor
namespace Go.Proofs.YtajnfkmkombajaaGreatDoor
open Go.RowKit Go.Maps
set_option maxRecDepth 8000 in
theorem refs_Free (sb : Nat) (F : Nat → Prop) (s : SS) (w : World) (o c : Int) (h : RStAt sb F s w) (hW : s.W.length ≤ 8000) :
   Calls Tryz.prog 45 #[.pointer (some ⟨sb, 0, none⟩), .int .i64 o, .int .i64 c] w fun e w' => e = .returned (.tuple #[.int .i64 (s.freeOp o c).1, .int .i64 (s.freeOp o c).2.1]) ∧ RStP sb F (s.freeOp o c).2.2 w w' := by
 by_cases hg : 0 ≤ c ∧ c ≤ 1048576 ∧ ownB o = true
 · exact refs_Free_loop sb F s w o c h hW hg.1 hg.2.1 hg.2.2
 · have e : s.freeOp o c = (0, 2, s) := by
     unfold SS.freeOp
     rw [if_pos]
     by_cases hc : cycleC c = 0
     · have := cycleC_zero.1 hc
       right
       cases ho : ownB o with
       | false => rfl
       | true => exact absurd ⟨this.1, this.2, ho⟩ hg
     · exact .inl hc
   rw [e]
   have HA := Lib.hid h
   have HOW := Lib.hid (ref_IsOwner o w)
   have hcases : ownB o = false ∨ (ownB o = true ∧ c < 0) ∨ (ownB o = true ∧ 0 ≤ c ∧ 1048576 < c) := by
     cases ho : ownB o with
     | false => exact .inl rfl
     | true =>
       have hn : ¬ (0 ≤ c ∧ c ≤ 1048576) := fun hh => hg ⟨hh.1, hh.2, ho⟩
       by_cases h0 : c < 0
       · exact .inr (.inl ⟨rfl, h0⟩)
       · exact .inr (.inr ⟨rfl, by omega, by omega⟩)
   clear h hg e
   rcases hcases with d | ⟨d, d1⟩ | ⟨d, d1, d2⟩
   all_goals
     rw [d] at HOW
     clear d
     go_enter Tryz.func45, Tryz.ntmps45
     go_wp2_with fail
     refine HOW.out.mono ?_
     rintro e w1 ⟨rfl, rfl⟩
     go_wp2_with fail
     go_ret2
     exact ⟨rfl, RStP.of_below HA.out (Below.refl _ _)⟩
end Go.Proofs.YtajnfkmkombajaaGreatDoor
namespace Go.Proofs.YtajnfkmkombajaaGreatDoor
open Go.RowKit Go.Maps
def rlay0 (sb g : Nat) : RLay := ⟨fun b => if b = sb then .top else if b = g then .row else .none, g, fun _ => 0, fun _ => 0, fun _ => 0⟩
theorem rget_new (j : Nat) : SS.new.rget j = none := by
 unfold SS.rget SS.new
 split
 · match j, (by assumption : j < 3) with
   | 0, _ => rfl
   | 1, _ => rfl
   | 2, _ => rfl
 · rfl
set_option maxRecDepth 8000 in
theorem refs_New (w : World) : Calls Tryz.prog 11 #[] w fun e w' => ∃ sb, e = .returned (.pointer (some ⟨sb, 0, none⟩)) ∧ Below w.heap.size w w' ∧ RStAt sb (fun b => w.heap.size ≤ b ∧ b < w'.heap.size) SS.new w' := by
 have hmk : ∀ w, (Instr.makeSlice 82 (.int .i64 3) (.int .i64 3)).run Tryz.prog w = .ok (.slice (some ⟨w.heap.size, 0, none⟩) 3 3) (w.alloc (.cells #[.pointer none, .pointer none, .pointer none] 86)) := fun _ => by kernel_rfl
 go_enter Tryz.func11, Tryz.ntmps11
 go_wp2
 go_ret
 have B : Below w.heap.size w ((w.alloc (.cells #[.pointer none, .pointer none, .pointer none] 86)).alloc (.cells #[.slice (some ⟨w.heap.size, 0, none⟩) 3 3, .slice none 0 0] 85)) := ((Below.refl _ _).alloc (Nat.le_refl _) _).alloc (by simp) _
 have hz : ((w.alloc (.cells #[.pointer none, .pointer none, .pointer none] 86)).alloc (.cells #[.slice (some ⟨w.heap.size, 0, none⟩) 3 3, .slice none 0 0] 85)).heap.size = w.heap.size + 2 := by simp
 refine ⟨w.heap.size + 1, rfl, B, rlay0 (w.heap.size + 1) w.heap.size, .slice none 0 0, ⟨SS.new_ok, ?_, if_pos rfl, ?_, ?_, ?_, (fun h hh => by cases hh), (fun j q hq => by rw [rget_new] at hq; cases hq)⟩, fun b hb => ?_, fun b hb => hb.2⟩
 · have := RowAt.new (w.alloc (.cells #[.pointer none, .pointer none, .pointer none] 86)) 85 [.slice (some ⟨w.heap.size, 0, none⟩) 3 3, .slice none 0 0]
   have hs : (w.alloc (.cells #[.pointer none, .pointer none, .pointer none] 86)).heap.size = w.heap.size + 1 := by simp
   rw [hs] at this
   exact this
 · have hp : ∀ L j, rptr SS.new L j = .pointer none := fun L j => by unfold rptr; rw [rget_new]; rfl
   rw [hp, hp, hp]
   exact (RowAt.new w 86 [.pointer none, .pointer none, .pointer none]).alloc _
 · show (if w.heap.size = w.heap.size + 1 then RRole.top else if w.heap.size = w.heap.size then RRole.row else RRole.none) = RRole.row
   rw [if_neg (by omega), if_pos rfl]
 · exact World.ownsRow_nil _ _ _ _
 · rw [hz]
   by_cases h1 : b = w.heap.size + 1
   · omega
   · by_cases h2 : b = w.heap.size
     · omega
     · exact absurd (show (if b = w.heap.size + 1 then RRole.top else if b = w.heap.size then RRole.row else RRole.none) = RRole.none by rw [if_neg h1, if_neg h2]) hb
end Go.Proofs.YtajnfkmkombajaaGreatDoor
namespace Go.Proofs.YtajnfkmkombajaaGreatDoor
open Go.RowKit Go.Maps
def RLay.put (L : RLay) (j b c m : Nat) : RLay :=
 ⟨fun x => if x = b then .bp j else if x = c then .bs j else if L.role x = .bp j ∨ L.role x = .bs j then .none else L.role x, L.g, fun i => if i = j then b else L.pb i, fun i => if i = j then c else L.ps i, fun i => if i = j then m else L.pc i⟩
theorem RLay.put_role {L : RLay} {j b c m x : Nat} (hb : L.role b = .none) (hc : L.role c = .none) (h0 : L.role x ≠ .none) (h1 : L.role x ≠ .bp j) (h2 : L.role x ≠ .bs j) : (L.put j b c m).role x = L.role x := by
 show (if x = b then RRole.bp j else if x = c then RRole.bs j else if L.role x = .bp j ∨ L.role x = .bs j then RRole.none else L.role x) = _
 rw [if_neg (fun e => h0 (by rw [e]; exact hb)), if_neg (fun e => h0 (by rw [e]; exact hc)), if_neg (fun e => e.elim h1 h2)]
theorem RLay.put_some {L : RLay} {j b c m x : Nat} (h : (L.put j b c m).role x ≠ .none) : x = b ∨ x = c ∨ L.role x ≠ .none := by
 by_cases hb : x = b
 · exact .inl hb
 · by_cases hc : x = c
   · exact .inr (.inl hc)
   · refine .inr (.inr fun e => h ?_)
     show (if x = b then RRole.bp j else if x = c then RRole.bs j else if L.role x = .bp j ∨ L.role x = .bs j then RRole.none else L.role x) = _
     rw [if_neg hb, if_neg hc]; split
     · rfl
     · exact e
theorem waitsE_put (L : RLay) {j : Nat} (hj : j < 3) (b c m : Nat) (l : List WP) : waitsE (L.put j b c m) l = waitsE L l := by
 unfold waitsE
 congr 1
 funext x
 unfold waitE
 have : (L.put j b c m).pb (x.2 + 3) = L.pb (x.2 + 3) := if_neg (by omega)
 rw [this]
theorem RStL.put {sb : Nat} {L : RLay} {wv : Value} {s : SS} {w : World} (h : RStL sb L wv s w) {j b c m : Nat} {q : QS} (hj : j < 3) (hp : RPoolAt b c m q w) (hb : L.role b = .none) (hc : L.role c = .none) :
   RStL sb (L.put j b c m) wv (s.setP (j : Int) q) (w.setCell ⟨L.g, j, none⟩ (.pointer (some ⟨b, 0, none⟩))) := by
 have K : Keep (· = L.g) w (w.setCell ⟨L.g, j, none⟩ (.pointer (some ⟨b, 0, none⟩))) := Keep.put (Keep.refl _ _) _
 have rr := h.rrow
 have hne : ∀ x, L.role x ≠ .row → ¬ x = L.g := fun x hx e => hx (by rw [e]; exact rr)
 have hr : ∀ i, (s.setP (j : Int) q).rget i = if i = j then some q else s.rget i := SS.rget_setP h.ok hj q
 refine ⟨h.ok.setP (by omega) (by omega) hp.ok, h.top.keep K (hne _ (by rw [h.rtop]; simp)), ?_, ?_, ?_, ?_, ?_, ?_⟩
 · rw [RLay.put_role hb hc (by rw [h.rtop]; simp) (by rw [h.rtop]; simp) (by rw [h.rtop]; simp)]; exact h.rtop
 · have hs := h.row.set j (.pointer (some ⟨b, 0, none⟩))
   have e : ([rptr s L 0, rptr s L 1, rptr s L 2].set j (.pointer (some ⟨b, 0, none⟩))) = [rptr (s.setP (j : Int) q) (L.put j b c m) 0, rptr (s.setP (j : Int) q) (L.put j b c m) 1, rptr (s.setP (j : Int) q) (L.put j b c m) 2] := by
     have hpt : ∀ i, rptr (s.setP (j : Int) q) (L.put j b c m) i = if i = j then .pointer (some ⟨b, 0, none⟩) else rptr s L i := fun i => by
       unfold rptr; rw [hr i]
       by_cases hi : i = j
       · rw [if_pos hi, if_pos hi]
         have : (L.put j b c m).pb i = b := if_pos hi
         rw [this]; rfl
       · rw [if_neg hi, if_neg hi]
         have : (L.put j b c m).pb i = L.pb i := if_neg hi
         rw [this]
     rw [hpt 0, hpt 1, hpt 2]
     match j, hj with
     | 0, _ => rfl
     | 1, _ => rfl
     | 2, _ => rfl
   rw [e] at hs
   exact hs
 · show (L.put j b c m).role L.g = .row
   rw [RLay.put_role hb hc (by rw [rr]; simp) (by rw [rr]; simp) (by rw [rr]; simp)]; exact rr
 · rw [waitsE_put L hj]
   exact ownsRow_other h.wai (fun g hg => K.block g (h.wai.lt g hg).2 (hne _ (by rw [h.rwai g hg]; simp)))
 · intro g hg
   have := h.rwai g hg
   rw [RLay.put_role hb hc (by rw [this]; simp) (by rw [this]; simp) (by rw [this]; simp)]; exact this
 · intro i q2 hq2
   rw [hr i] at hq2
   by_cases hi : i = j
   · subst hi
     rw [if_pos rfl] at hq2
     obtain rfl := Option.some.inj hq2
     have e1 : (L.put i b c m).pb i = b := if_pos rfl
     have e2 : (L.put i b c m).ps i = c := if_pos rfl
     have e3 : (L.put i b c m).pc i = m := if_pos rfl
     rw [e1, e2, e3]
     refine ⟨hp.keep K (hne _ (by rw [hb]; simp)) (hne _ (by rw [hc]; simp)), if_pos rfl, ?_⟩
     show (if c = b then RRole.bp i else if c = c then RRole.bs i else _) = _
     rw [if_neg (fun e => hp.ne e.symm), if_pos rfl]
   · rw [if_neg hi] at hq2
     obtain ⟨p1, p2, p3⟩ := h.poo i q2 hq2
     have e1 : (L.put j b c m).pb i = L.pb i := if_neg hi
     have e2 : (L.put j b c m).ps i = L.ps i := if_neg hi
     have e3 : (L.put j b c m).pc i = L.pc i := if_neg hi
     rw [e1, e2, e3]
     refine ⟨p1.keep K (hne _ (by rw [p2]; simp)) (hne _ (by rw [p3]; simp)), ?_, ?_⟩
     · rw [RLay.put_role hb hc (by rw [p2]; simp) (by rw [p2]; simpa using hi) (by rw [p2]; simp)]; exact p2
     · rw [RLay.put_role hb hc (by rw [p3]; simp) (by rw [p3]; simp) (by rw [p3]; simpa using hi)]; exact p3
end Go.Proofs.YtajnfkmkombajaaGreatDoor
namespace Go.Proofs.YtajnfkmkombajaaGreatDoor
open Go.RowKit Go.Maps
theorem RStL.laid {sb : Nat} {L : RLay} {wv : Value} {s : SS} {w w1 : World} {F : Nat → Prop} (h : RStL sb L wv s w) (hF : ∀ b, L.role b ≠ .none → F b) (hlt : ∀ b, F b → b < w.heap.size) {j b c m : Nat} {q : QS} (hj : j < 3) (hw : Below w.heap.size w w1) (hp : RPoolAt b c m q w1) (hb : w.heap.size ≤ b) (hc : w.heap.size ≤ c) :
   RStP sb F (s.setP (j : Int) q) w (w1.setCell ⟨L.g, j, none⟩ (.pointer (some ⟨b, 0, none⟩))) := by
 have rn : ∀ x, w.heap.size ≤ x → L.role x = .none := fun x hx => by
   apply Decidable.byContradiction
   intro hn
   have := hlt x (hF x hn)
   omega
 have hg : F L.g := hF _ (by rw [h.rrow]; simp)
 have bl := hp.row.lt
 have cl := hp.lt.2
 have hs : w1.heap.size = (w1.setCell ⟨L.g, j, none⟩ (.pointer (some ⟨b, 0, none⟩))).heap.size := by simp
 have K : Keep F w (w1.setCell ⟨L.g, j, none⟩ (.pointer (some ⟨b, 0, none⟩))) := (Keep.of_below hw).setCell (p := ⟨L.g, j, none⟩) (.inl hg) _
 refine ⟨K, L.put j b c m, wv, (h.below hw).put hj hp (rn b hb) (rn c hc), fun x hx => ?_, grownF_lt hlt K.size⟩
 rcases RLay.put_some hx with rfl | rfl | hx
 · exact .inr ⟨hb, by rw [← hs]; exact bl⟩
 · exact .inr ⟨hc, by rw [← hs]; exact cl⟩
 · exact .inl (hF _ hx)
end Go.Proofs.YtajnfkmkombajaaGreatDoor
namespace Go.Proofs.YtajnfkmkombajaaGreatDoor
open Go.RowKit Go.Maps
set_option maxRecDepth 8000 in
theorem refs_Register (sb : Nat) (F : Nat → Prop) (s : SS) (w : World) (k : Int) (h : RStAt sb F s w) :
   Calls Tryz.prog 13 #[.pointer (some ⟨sb, 0, none⟩), .int .i64 k] w fun e w' => e = .returned (.int .i64 (s.regOp k).1) ∧ RStP sb F (s.regOp k).2 w w' := by
 have HA := Lib.hid (fun w' => RStP.of_below (w' := w') h)
 obtain ⟨L, wv, hL, hF, hlt⟩ := h
 by_cases hb : k < 0 ∨ 3 ≤ k
 · have E := Lib.hid (reg_no (s := s) hb)
   have hw : k < 0 ∨ (0 ≤ k ∧ 3 ≤ k) := by omega
   clear hL hF hlt hb
   rcases hw with h0 | ⟨h0, h3⟩
   all_goals
     go_enter Tryz.func13, Tryz.ntmps13
     go_wp2
     go_ret
     rw [E.out]
     exact ⟨rfl, HA.out _ (Below.refl _ _)⟩
 · have k0 : 0 ≤ k := by omega
   obtain ⟨j, rfl⟩ := Int.eq_ofNat_of_zero_le k0
   have hj : j < 3 := by omega
   have hp := hL.ptr hj
   have hi : s.is (j : Int) = (s.rget j).isSome := by unfold SS.is; rw [SS.rget_pool s hj]
   have t0 := hL.top.cell 0
   simp only [List.getElem?_cons_zero] at t0
   have x1 : decide ((j : Int) < 3) = true := by simp; omega
   have x2 : decide ((3 : Int) ≤ (j : Int)) = false := by simp; omega
   have x3 : decide (3 ≤ j) = false := by simp; omega
   unfold rptr at hp
   cases hq : s.rget j with
   | some q =>
     rw [hq] at hp hi
     have E := Lib.hid (reg_is hb hi)
     simp only [Option.isSome_some, if_true] at hp
     clear hq hL hF hlt hb hi
     go_enter Tryz.func13, Tryz.ntmps13
     go_wp2
     go_ret
     rw [E.out]
     exact ⟨rfl, HA.out _ (Below.refl _ _)⟩
   | none =>
     rw [hq] at hp hi
     have E := Lib.hid (reg_in hb hi)
     simp only [Option.isSome_none, Bool.false_eq_true, if_false] at hp
     have HLD := Lib.hid (fun w1 b c hw hp hb hc => hL.laid hF hlt (w1 := w1) (b := b) (c := c) (m := 6) (q := QS.new) hj hw hp hb hc)
     have ltop := hL.top.lt
     have lrow := hL.row.lt
     have HT := Lib.hid (fun w1 (hw : Below w.heap.size w w1) => And.intro ((hL.below hw).top.cell 0) (And.intro ((hL.below hw).ptr hj) ((hL.below hw).row.frozen j)))
     clear hq hL hF hlt hb hi
     go_enter Tryz.func13, Tryz.ntmps13
     go_wp2_with fail
     go_region_with (go_at_call 35; refine (refq_New _).mono ?_; rintro e w1 ⟨b, c, rfl, hb1, hb2, hb3, hp1⟩; have hw1 : Below w.heap.size w w1 := btrans ((Below.refl _ _).drewN 1) hb1; have c0' := (HT.out _ hw1).1; have c1' := (HT.out _ hw1).2.1; have f1' := (HT.out _ hw1).2.2; simp only [List.getElem?_cons_zero] at c0')
     all_goals
       go_wp2
       go_ret
       rw [E.out]
       exact ⟨rfl, HLD.out _ _ _ hw1 hp1 hb2 hb3⟩
end Go.Proofs.YtajnfkmkombajaaGreatDoor
namespace Go.Proofs.YtajnfkmkombajaaGreatDoor
open Go.RowKit Go.Maps
theorem RowPre.of_own {w : World} {base e n : Nat} {v : Value} {xs : List Value} (h : w.ownsRow base e 1 v n xs) (hn : 0 < n) : ∃ g cap, v = .slice (some ⟨g, 0, none⟩) n cap ∧ base ≤ g ∧ RowPre g e xs w ∧ n ≤ cap ∧ cap ≤ maxLen := by
 rcases h.2 with ⟨hv, hn0⟩ | ⟨g, cap, cur, hv, hb, hg, hnc, hcm, hcs, ht⟩
 · omega
 · refine ⟨g, cap, hv, hb, ⟨cur.toList.drop n, ?_⟩, hnc, hcm⟩
   unfold RowAt
   rw [hg, ← ht, Nat.mul_one, List.take_append_drop]
theorem ownsRow_set {w : World} {base e size n g : Nat} {v : Value} {xs : List Value} (h : w.ownsRow base e size v n xs) (hv : v.ownBlock = some g) {i : Nat} (hi : i < xs.length) (u : Value) : (w.setCell ⟨g, i, none⟩ u).ownsRow base e size v n (xs.set i u) := by
 refine ⟨by rw [List.length_set]; exact h.1, ?_⟩
 rcases h.2 with ⟨hv', hn0⟩ | ⟨g', cap, cur, hv', hb, hg, hnc, hcm, hcs, ht⟩
 · rw [hv'] at hv; cases hv
 · have : g' = g := by rw [hv'] at hv; simpa [Value.ownBlock] using hv
   subst this
   have hlt := lt_of_block hg
   refine .inr ⟨g', cap, cur.setIfInBounds i u, hv', hb, ?_, hnc, hcm, by simpa using hcs, ?_⟩
   · have h' : w.heap[g'] = .cells cur e (0, 0) := by simpa [Array.getElem?_eq_getElem hlt] using hg
     show (w.heap.modify g' _)[g']? = _
     rw [Array.getElem?_eq_getElem (by simpa using hlt), Array.getElem_modify_self, h']
     simp
   · rw [Array.toList_setIfInBounds, List.take_set, ht]
theorem flatMap_set {α : Type} {enc enc' : α → List Value} {C : Nat} (hC : ∀ x, (enc x).length = C) : ∀ (l : List α) (i k : Nat) (u : Value) (x : α), k < C → l[i]? = some x → enc' x = (enc x).set k u → (∀ (j : Nat) (y : α), j ≠ i → l[j]? = some y → enc' y = enc y) → (l.flatMap enc).set (i * C + k) u = l.flatMap enc'
 | [], i, k, u, x, _, hx, _, _ => by simp at hx
 | y :: l, 0, k, u, x, hk, hx, h1, h2 => by
   simp at hx; subst hx
   rw [List.flatMap_cons, List.flatMap_cons, Nat.zero_mul, Nat.zero_add, List.set_append_left _ _ (by rw [hC]; exact hk), h1]
   congr 1
   have : ∀ (m : List α), (∀ (j : Nat) (z : α), m[j]? = some z → enc' z = enc z) → m.flatMap enc = m.flatMap enc' := by
     intro m
     induction m with
     | nil => intro _; rfl
     | cons z m ih => intro hm; rw [List.flatMap_cons, List.flatMap_cons, hm 0 z rfl, ih (fun j z' hz => hm (j + 1) z' (by simpa using hz))]
   exact this l (fun j z hz => h2 (j + 1) z (by omega) (by simpa using hz))
 | y :: l, i + 1, k, u, x, hk, hx, h1, h2 => by
   rw [List.flatMap_cons, List.flatMap_cons, List.set_append_right _ _ (by rw [hC, Nat.succ_mul]; omega), hC, show (i + 1) * C + k - C = i * C + k by rw [Nat.succ_mul]; omega, h2 0 y (by omega) rfl,
     flatMap_set hC l i k u x hk (by simpa using hx) h1 (fun j z hj hz => h2 (j + 1) z (by omega) (by simpa using hz))]
set_option maxRecDepth 8000 in
theorem refq_Copy (b sb cap : Nat) (q : QS) (w : World) (h : RPoolAt b sb cap q w) :
   Calls Tryz.prog 41 #[.pointer (some ⟨b, 0, none⟩)] w fun e w' => ∃ sb2 cap2, e = .returned (.pointer (some ⟨w.heap.size, 0, none⟩)) ∧ Below w.heap.size w w' ∧ w.heap.size ≤ sb2 ∧ RPoolAt w.heap.size sb2 cap2 q w' := by
 obtain ⟨i0, hi, hz0, hz1, hz2⟩ := info_parts Tryz.infoInt
 have c0 := h.c0
 have l6 : (q.sh.map (Value.int IntKind.i64)).length = 6 * 1 := by rw [List.length_map, h.ok.six]
 have hone : ∀ u ∈ q.sh.map (Value.int IntKind.i64), u.oneCell' = true := by intro u hu; obtain ⟨x, _, rfl⟩ := List.mem_map.1 hu; rfl
 have hlt := h.lt
 have hc6 := h.c6
 obtain ⟨wb, hwb⟩ : ∃ wb, w.alloc (.cells #[.int .i64 q.total, .slice none 0 0] 97) = wb := ⟨_, rfl⟩
 have B0 : Below w.heap.size w wb := by rw [← hwb]; exact (Below.refl _ _).alloc (Nat.le_refl _) _
 have R0 : RowAt w.heap.size 97 [.int .i64 q.total, .slice none 0 0] wb := by rw [← hwb]; exact RowAt.new _ _ _
 have hA : RPoolAt b sb cap q wb := h.keep (F := fun _ => False) (Keep.of_below B0) id id
 have c1 := hA.c1
 have hsz : wb.heap.size = w.heap.size + 1 := by rw [← hwb]; simp
 have HX := Lib.hid (fun (i j : Nat) (u : Value) (hj : (q.sh.map (Value.int IntKind.i64))[j]? = some u) => show (wb.drewN i).cell? ((⟨sb, 0, none⟩ : Addr).add j) = some u by
   have hjl : j < (q.sh.map (Value.int IntKind.i64)).length := (List.getElem?_eq_some_iff.1 hj).1
   have := hA.has.cell hjl
   rw [hj] at this
   rw [World.cell?_drewN, Addr.add_lit, Nat.zero_add]; exact this)
 have HFIN := Lib.hid (fun (i g cp : Nat) (w3 : World) (hg : (wb.drewN i).grownBy w3 none) (ho : w3.ownsRow (w.heap.size + 1) 3 1 (.slice (some ⟨g, 0, none⟩) (0 + 6) cp) (0 + 6) ([] ++ q.sh.map (Value.int .i64))) => show
     (w3.cell? ⟨w.heap.size, 0, none⟩ = some (.int .i64 q.total) ∧ w3.cell? ⟨w.heap.size, 1, none⟩ = some (.slice none 0 0) ∧ w3.frozen? ⟨w.heap.size, 1, none⟩ = false) ∧ Below w.heap.size w (w3.setCell ⟨w.heap.size, 1, none⟩ (.slice (some ⟨g, 0, none⟩) (0 + 6) cp)) ∧ w.heap.size ≤ g ∧ RPoolAt w.heap.size g cp q (w3.setCell ⟨w.heap.size, 1, none⟩ (.slice (some ⟨g, 0, none⟩) (0 + 6) cp)) by
   have B3 : Below w.heap.size w w3 := (B0.drewN i).grown hg (by simp [hsz]) (fun k hk => by cases hk)
   have R3 : RowAt w.heap.size 97 [.int .i64 q.total, .slice none 0 0] w3 := (hg.block _ (by simpa using (R0.lt)) (by simp)).trans R0
   obtain ⟨g', cap', hv, hb, hrow, hcp, hcm⟩ := RowPre.of_own ho (by decide)
   cases hv
   refine ⟨⟨R3.cell 0, R3.cell 1, R3.frozen 1⟩, B3.setCell (p := ⟨w.heap.size, 1, none⟩) (Nat.le_refl _) _, by omega, h.ok, R3.set 1 _, ?_, by omega, by omega, hcm⟩
   rw [List.nil_append] at hrow
   exact hrow.set_other (p := ⟨w.heap.size, 1, none⟩) (by simp only; omega) _)
 have w0 : wb.cell? ⟨w.heap.size, 1, none⟩ = some (.slice none 0 0) := R0.cell 1
 have hp0 := wb
 clear h hA hlt
 go_enter Tryz.func41, Tryz.ntmps41
 go_wp2_with fail
 go_region_law ((refine step_append_lies _ rfl (.tmp 14) (.tmp 18) 28 rfl (w.heap.size + 1) 3 i0 (.int .i64 0) 1 8 Tryz.underlying28 hi hz0 hz1 hz2 rfl (by decide) (.slice none 0 0) 0 [] rfl (World.ownsRow_nil _ _ _ _) ⟨sb, 0, none⟩ 6 cap (q.sh.map (Value.int .i64)) rfl l6 (HX.out _) hone (by decide) (by unfold maxLen; omega) (by omega) (by simp [hsz]) _ rfl ?_; intro g cp w3 ho3 hg3 hor hlt3; obtain ⟨⟨m0, m1, m2⟩, mB, mg, mP⟩ := HFIN.out _ g cp w3 hg3 ho3))
 all_goals
   go_wp2_with fail
   go_ret
   exact ⟨g, cp, rfl, mB, mg, mP⟩
end Go.Proofs.YtajnfkmkombajaaGreatDoor
