/-
  The document's court in memory: Accuse.
  The document's stakes in memory: how they lie; New, Is, Staked, Value.
  The document's stakes in memory: what is asked of them: Staked, Value, Waits, Total.
  The document's stakes in memory: a pool changes; New, Join, Add.
  The document's stakes in memory: Total.
  The document's stakes in memory: what waits at i changes; a change of all that waits, under way.
-/
import Derived.Test.YtajnfkmkombajaaGreatDoorQSP13
import Derived.Test.YtajnfkmkombajaaGreatDoorQSP23
import Derived.Test.YtajnfkmkombajaaGreatDoorQSP24
import Derived.Deep.RegionLaw
import Derived.Deep.AppendLies
import Derived.Deep.LoopGhost
import Derived.Deep.QuietTactic
import Derived.BigQuiet
import Derived.Test.YtajnfkmkombajaaGreatDoorQSP07
set_option linter.unusedVariables false
set_option linter.unusedSimpArgs false
set_option linter.unusedVariables false
namespace Go.Proofs.YtajnfkmkombajaaGreatDoor
open Go.RowKit Go.Maps
theorem caseE_len (x : Int × EV) : (caseE x).length = 4 := rfl
structure RCL (rb : Nat) (lv : Value) (k : KS) (w : World) : Prop where
 row : RowAt rb 47 [lv, .int .i64 k.done] w
 l : w.ownsRow 0 93 4 lv k.L.length (casesE k.L)
 nl : lv.ownBlock ≠ some rb
 done : k.done ≤ k.L.length
def RCourtAt (rb : Nat) (F : Nat → Prop) (k : KS) (w : World) : Prop := ∃ lv, RCL rb lv k w ∧ F rb ∧ (∀ g, lv.ownBlock = some g → F g) ∧ ∀ b, F b → b < w.heap.size
def RCourtP (rb : Nat) (F : Nat → Prop) (k : KS) (w w' : World) : Prop := Keep F w w' ∧ RCourtAt rb (grownF F w w') k w'
section
variable {rb : Nat} {lv : Value} {k : KS} {F G : Nat → Prop} {w w' : World}
theorem RCL.keep (h : RCL rb lv k w) (K : Keep G w w') (h1 : ¬ G rb) (h3 : ∀ g, lv.ownBlock = some g → ¬ G g) : RCL rb lv k w' :=
 ⟨h.row.keep K h1, ownsRow_other h.l (fun g hg => K.block g (h.l.lt g hg).2 (h3 g hg)), h.nl, h.done⟩
theorem RCourtAt.keep (h : RCourtAt rb F k w) (K : Keep G w w') (hG : ∀ b, F b → ¬ G b) : RCourtAt rb F k w' := by
 obtain ⟨lv, h1, h2, h4, h5⟩ := h
 exact ⟨lv, h1.keep K (hG _ h2) (fun g hg => hG _ (h4 g hg)), h2, h4, fun b hb => Nat.lt_of_lt_of_le (h5 b hb) K.size⟩
theorem RCourtAt.below (h : RCourtAt rb F k w) (K : Below w.heap.size w w') : RCourtAt rb F k w' := h.keep (G := fun _ => False) (Keep.of_below K) (fun _ _ => id)
theorem RCourtAt.lt (h : RCourtAt rb F k w) : ∀ b, F b → b < w.heap.size := by obtain ⟨lv, h1, h2, h3, h4⟩ := h; exact h4
theorem RCourtAt.foot (h : RCourtAt rb F k w) (hG : ∀ b, F b → G b) (hlt : ∀ b, G b → b < w.heap.size) : RCourtAt rb G k w := by
 obtain ⟨lv, h1, h2, h3, h4⟩ := h
 exact ⟨lv, h1, hG _ h2, fun g hg => hG _ (h3 g hg), hlt⟩
theorem RCourtP.of_below (h : RCourtAt rb F k w) (hb : Below w.heap.size w w') : RCourtP rb F k w w' :=
 ⟨Keep.of_below hb, (h.below hb).foot (fun _ hk => .inl hk) (grownF_lt (fun _ hk => h.lt _ hk) hb.size)⟩
theorem RCL.added {lv' : Value} {x : Int × EV} {w1 : World} (h : RCL rb lv k w) (hr : RowAt rb 47 [lv', .int .i64 k.done] w1) (hl : w1.ownsRow 0 93 4 lv' (k.L.length + 1) (casesE k.L ++ caseE x)) (hn : lv'.ownBlock ≠ some rb) : RCL rb lv' ⟨k.L ++ [x], k.done⟩ w1 :=
 ⟨hr, by simp only; rw [casesE_snoc, List.length_append]; exact hl, hn, by have := h.done; simp; omega⟩
theorem RCL.finish {w1 w3 : World} {g cap : Nat} {x : Int × EV} {ob : Obj} {i : Nat} (hL : RCL rb lv k w) (hF1 : F rb) (hF3 : ∀ g, lv.ownBlock = some g → F g) (hlt : ∀ b, F b → b < w.heap.size) (hb1 : Below w.heap.size w w1)
   (hg : ((w1.drewN i).alloc ob).grownBy w3 lv.ownBlock) (ho : w3.ownsRow 0 93 4 (.slice (some ⟨g, 0, none⟩) (k.L.length + 1) cap) (k.L.length + 1) (casesE k.L ++ caseE x))
   (hor : lv.ownBlock = some g ∨ g = w1.heap.size + 1) (hgl : g < w3.heap.size) :
   RCourtP rb F ⟨k.L ++ [x], k.done⟩ w (w3.setCell ⟨rb, 0, none⟩ (.slice (some ⟨g, 0, none⟩) (k.L.length + 1) cap)) := by
 have KG : ∀ G : Nat → Prop, (∀ g, lv.ownBlock = some g → G g) → Keep G w w3 := fun G h2 =>
   (((Keep.of_below (F := G) hb1).drewN i).alloc ob).grown hg (fun k hk => .inl (h2 k hk))
 have hs := hb1.size
 have hrb := hL.row.lt
 have hgk : g ≠ rb := by
   rcases hor with h | h
   · exact fun e => hL.nl (by rw [h, e])
   · omega
 have K5 : Keep F w (w3.setCell ⟨rb, 0, none⟩ (.slice (some ⟨g, 0, none⟩) (k.L.length + 1) cap)) := (KG F hF3).setCell (p := ⟨rb, 0, none⟩) (.inl hF1) _
 have hrow : RowAt rb 47 [lv, .int .i64 k.done] w3 := hL.row.keep (KG (fun b => lv.ownBlock = some b) (fun g h => h)) hL.nl
 have hset := hrow.set 0 (.slice (some ⟨g, 0, none⟩) (k.L.length + 1) cap)
 refine ⟨K5, .slice (some ⟨g, 0, none⟩) (k.L.length + 1) cap, hL.added hset ?_ (by simpa [Value.ownBlock] using hgk), .inl hF1, fun g' hg' => ?_, grownF_lt hlt K5.size⟩
 · refine ownsRow_other ho (fun g' hg' => ?_)
   have : g' = g := by simpa [Value.ownBlock] using hg'.symm
   subst this
   exact Below.heap_setCell _ _ _ _ hgk
 · have : g' = g := by simpa [Value.ownBlock] using hg'.symm
   subst this
   rcases hor with h | h
   · exact .inl (hF3 _ h)
   · exact .inr ⟨by omega, by simpa [World.setCell] using hgl⟩
end
theorem infoRCase : (Tryz.prog.info? 93).map (fun i => (i.zero.map (fun z => z.cells.size), i.size, i.bytes)) = some (some 4, 4, 32) := by kernel_rfl
theorem info_rcase : ∃ i z, Tryz.prog.info? 93 = some i ∧ i.zero = some z ∧ i.size = 4 ∧ i.bytes = 32 ∧ z.cells.size = 4 := by
 have h := infoRCase
 cases hi : Tryz.prog.info? 93 with
 | none => rw [hi] at h; cases h
 | some i =>
   rw [hi] at h
   simp only [Option.map_some, Option.some.injEq, Prod.mk.injEq] at h
   obtain ⟨h1, h2, h3⟩ := h
   cases hz : i.zero with
   | none => rw [hz] at h1; cases h1
   | some z => rw [hz] at h1; simp at h1; exact ⟨i, z, rfl, hz, h2, h3, h1⟩
structure RAccB (w : World) (rb : Nat) (lv : Value) (k : KS) (e : EV) (w1 : World) : Prop where
 below : Below w.heap.size w w1
 e0 : w1.cell? ⟨w.heap.size, 0, none⟩ = some (.int .i64 e.b)
 e1 : w1.cell? ⟨w.heap.size, 1, none⟩ = some (.int .i64 e.c)
 e2 : w1.cell? ⟨w.heap.size, 2, none⟩ = some (.int .i64 e.n)
 c0 : w1.cell? ⟨rb, 0, none⟩ = some lv
 l : w1.ownsRow 0 93 4 lv k.L.length (casesE k.L)
 far : (∀ i ob, ((w1.drewN i).alloc ob).cell? ⟨rb, 0, none⟩ = some lv) ∧ (∀ i ob, ((w1.drewN i).alloc ob).ownsRow 0 93 4 lv k.L.length (casesE k.L)) ∧
   ∀ i ob w3, ((w1.drewN i).alloc ob).grownBy w3 lv.ownBlock → w3.cell? ⟨rb, 0, none⟩ = some lv ∧ w3.frozen? ⟨rb, 0, none⟩ = false
theorem RAccB.of {w : World} {rb : Nat} {lv : Value} {k : KS} {e : EV} (hL : RCL rb lv k w) : RAccB w rb lv k e (w.alloc (.cells #[.int .i64 e.b, .int .i64 e.c, .int .i64 e.n] 61)) := by
 have hb : Below w.heap.size w (w.alloc (.cells #[.int .i64 e.b, .int .i64 e.c, .int .i64 e.n] 61)) := (Below.refl _ _).alloc (Nat.le_refl _) _
 have hL1 : RCL rb lv k (w.alloc (.cells #[.int .i64 e.b, .int .i64 e.c, .int .i64 e.n] 61)) := hL.keep (G := fun _ => False) (Keep.of_below hb) id (fun _ _ => id)
 refine ⟨hb, by simp [go_sem], by simp [go_sem], by simp [go_sem], hL1.row.cell 0, hL1.l, fun i ob => ((hL1.row.drewN i).alloc ob).cell 0, fun i ob => ?_, fun i ob w3 hg => ?_⟩
 · exact ownsRow_other hL1.l (fun g hg => Below.heap_alloc _ _ _ (hL1.l.lt g hg).2)
 · have hr3 : RowAt rb 47 [lv, .int .i64 k.done] w3 := hL1.row.keep ((((Keep.refl (fun b => lv.ownBlock = some b) _).drewN i).alloc ob).grown hg (fun k hk => .inl hk)) hL.nl
   exact ⟨hr3.cell 0, hr3.frozen 0⟩
theorem KS.has_iff {k : KS} {e : EV} : k.has e = true ↔ ∃ x ∈ k.L, x.2 = e := by unfold KS.has; rw [List.any_eq_true]; simp
set_option maxRecDepth 8000 in
set_option maxHeartbeats 2000000 in
theorem ref_CourtAccuse (rb : Nat) (F : Nat → Prop) (k : KS) (o : Int) (e : EV) (cy : Int) (w : World) (h : RCourtAt rb F k w) (hk : k.L.length ≤ 1000000) :
   Calls Tryz.prog 23 #[.pointer (some ⟨rb, 0, none⟩), .int .i64 o, evV e, .int .i64 cy] w fun y w' => y = .returned (.int .i64 (k.accuse o e cy).1) ∧ RCourtP rb F (k.accuse o e cy).2 w w' := by
 have HC := Lib.hid (fun w' => RCourtP.of_below (w' := w') h)
 obtain ⟨i0, z0, hi, hz0, hz1, hz2, hz3⟩ := info_rcase
 obtain ⟨lv, hL, hF1, hF3, hlt⟩ := h
 have hB := RAccB.of (e := e) hL
 obtain ⟨eb, ec, en⟩ := e
 unfold evV
 simp only at hB
 generalize hw1 : w.alloc (.cells #[.int .i64 eb, .int .i64 ec, .int .i64 en] 61) = w1 at hB
 obtain ⟨hb1, e0, e1, e2, c0, l1, hfar⟩ := hB
 simp only at e0 e1 e2
 have HFIN := Lib.hid (fun i g cap w3 ob => hL.finish (i := i) (g := g) (cap := cap) (w1 := w1) (w3 := w3) (ob := ob) (x := (o, ⟨eb, ec, en⟩)) hF1 hF3 hlt hb1)
 have HB1 := Lib.hid hb1; clear hb1 hL hF1 hF3 hlt
 have HFAR := Lib.hid hfar; clear hfar
 by_cases hb : ownB o = false ∨ eb < 0 ∨ 3 ≤ eb ∨ en < 0 ∨ cy < 0 ∨ 1048576 < cy
 · have E := Lib.hid (show k.accuse o ⟨eb, ec, en⟩ cy = (2, k) from KS.acc_bad (by unfold KS.code; rw [if_pos hb]) (by decide))
   have hcs : ownB o = false ∨ (ownB o = true ∧ eb < 0) ∨ (ownB o = true ∧ 0 ≤ eb ∧ 3 ≤ eb) ∨ (ownB o = true ∧ 0 ≤ eb ∧ eb < 3 ∧ en < 0) ∨ (ownB o = true ∧ 0 ≤ eb ∧ eb < 3 ∧ 0 ≤ en ∧ cy < 0) ∨ (ownB o = true ∧ 0 ≤ eb ∧ eb < 3 ∧ 0 ≤ en ∧ 0 ≤ cy ∧ 1048576 < cy) := by
     cases ho : ownB o with
     | false => exact .inl rfl
     | true =>
       have : eb < 0 ∨ 3 ≤ eb ∨ en < 0 ∨ cy < 0 ∨ 1048576 < cy := hb.resolve_left (by rw [ho]; decide)
       simp only [true_and]
       omega
   clear hb
   rcases hcs with h1 | ⟨h1, h2⟩ | ⟨h1, h2, h3⟩ | ⟨h1, h2, h3, h4⟩ | ⟨h1, h2, h3, h4, h5⟩ | ⟨h1, h2, h3, h4, h5, h6⟩
   all_goals
     go_enter Tryz.func23, Tryz.ntmps23
     go_wp2_with fail
     refine (ref_IsOwner _ _).mono ?_
     rintro y w2 ⟨rfl, rfl⟩
     rw [h1]
     go_wp2_with fail
     go_ret
     exact ⟨by rw [E.out]; rfl, by rw [E.out]; exact HC.out _ HB1.out⟩
 · have ho : ownB o = true := by
     cases hx : ownB o with
     | true => rfl
     | false => exact absurd (.inl hx) hb
   have i1 : 0 ≤ eb ∧ eb < 3 ∧ 0 ≤ en ∧ 0 ≤ cy ∧ cy ≤ 1048576 := by omega
   obtain ⟨i1, i2, i3, i4, i5⟩ := i1
   have hcd := KS.code_of (k := k) (o := o) (e := ⟨eb, ec, en⟩) (cy := cy) ho ⟨i1, i2⟩ i3 ⟨i4, i5⟩
   simp only at hcd
   clear hb
   by_cases hold : cy < ec ∨ ec < cy - 2 ∨ ec < 0
   · rw [if_pos hold] at hcd
     have E := Lib.hid (KS.acc_bad hcd (by decide))
     have hcs : ec < 0 ∨ (0 ≤ ec ∧ cy < ec) ∨ (0 ≤ ec ∧ ec ≤ cy ∧ ec < cy - 2) := by omega
     clear hold hcd
     rcases hcs with h1 | ⟨h1, h2⟩ | ⟨h1, h2, h3⟩
     all_goals
       go_enter Tryz.func23, Tryz.ntmps23
       go_wp2_with fail
       refine (ref_IsOwner _ _).mono ?_
       rintro y w2 ⟨rfl, rfl⟩
       rw [ho]
       go_wp2_with fail
       go_ret
       exact ⟨by rw [E.out]; rfl, by rw [E.out]; exact HC.out _ HB1.out⟩
   · rw [if_neg hold] at hcd
     have j1 : ec ≤ cy ∧ cy - 2 ≤ ec ∧ 0 ≤ ec := by omega
     obtain ⟨j1, j2, j3⟩ := j1
     clear hold
     obtain ⟨la, lc, rfl⟩ := own_shape l1
     have HL := Lib.hid (RdR.of_row caseE_len (by decide) l1)
     have HLc := Lib.hid HL.out.lc
     have HCD := Lib.hid hcd; clear hcd l1
     have hGd := evGuard
     go_enter Tryz.func23, Tryz.ntmps23
     go_wp2_with fail
     refine (ref_IsOwner _ _).mono ?_
     rintro y w2 ⟨rfl, rfl⟩
     rw [ho]
     clear ho
     go_wp2_with fail
     go_loopg [10] k.L.length (fun g i wr => ∃ (j d : Nat), g + j = k.L.length ∧ i = .int .i64 j ∧ wr = w1.drewN d ∧ ∀ x ∈ k.L.take j, x.2 ≠ ⟨eb, ec, en⟩)
     case atStart => exact ⟨0, 0, rfl, rfl, rfl, by simp⟩
     case round =>
       obtain ⟨j, d, hgj, rfl, rfl, hno⟩ := hrel
       have HGJ := Lib.hid (And.intro hgj hno); clear hgj hno
       by_cases hjl : j < k.L.length
       · obtain ⟨x, hx⟩ : ∃ x, k.L[j]? = some x := ⟨_, List.getElem?_eq_getElem hjl⟩
         obtain ⟨b7, off7, rfl, hbl7, hcs7⟩ := HL.out.cells j x hx
         have t1 := hcs7 1 (by decide)
         have t2 := hcs7 2 (by decide)
         have t3 := hcs7 3 (by decide)
         simp only [caseE, List.getElem?_cons_zero, List.getElem?_cons_succ] at t1 t2 t3
         have hq := fun w => ev_eql x.2 ⟨eb, ec, en⟩ w
         unfold evV at hq
         simp only at hq
         have HX := Lib.hid hx
         have hlc := HLc.out
         clear hcs7 hx
         by_cases hxe : x.2 = ⟨eb, ec, en⟩
         · rw [show decide (x.2 = (⟨eb, ec, en⟩ : EV)) = true by simp [hxe]] at hq
           have E := Lib.hid (show k.accuse o ⟨eb, ec, en⟩ cy = (5, k) from KS.acc_bad (by rw [HCD.out, KS.has_iff.2 ⟨x, List.mem_of_getElem? HX.out, hxe⟩]; rfl) (by decide))
           clear hxe
           generalize k.L.length = tl at *
           go_wp2_with fail
           go_quiet (fail)
           go_wp2_with fail
           go_ret
           exact ⟨by rw [E.out]; rfl, by rw [E.out]; exact HC.out _ ((HB1.out.drewN _).drewN _)⟩
         · rw [show decide (x.2 = (⟨eb, ec, en⟩ : EV)) = false by simp [hxe]] at hq
           have HXE := Lib.hid hxe
           clear hxe
           have htk := List.take_add_one (l := k.L) (i := j)
           rw [HX.out] at htk
           have HTK := Lib.hid htk; clear htk
           go_wp2_with fail
           go_quiet (fail)
           go_wp2_with fail
           have hgj := HGJ.out.1
           go_roundg (k.L.length - (j + 1))
           case measure => omega
           case rel => exact ⟨j + 1, d + nq, by omega, by go_num, rfl, fun y hy => by
             rw [HTK.out] at hy
             rcases List.mem_append.1 hy with hy | hy
             · exact HGJ.out.2 y hy
             · simp at hy; subst hy; exact HXE.out⟩
       · have hno := HGJ.out.2
         rw [List.take_of_length_le (by omega)] at hno
         have hh : k.has ⟨eb, ec, en⟩ = false := by
           cases hx : k.has ⟨eb, ec, en⟩ with
           | false => rfl
           | true => obtain ⟨x, h1, h2⟩ := KS.has_iff.1 hx; exact absurd h2 (hno x h1)
         have E := Lib.hid (show k.accuse o ⟨eb, ec, en⟩ cy = (0, ⟨k.L ++ [(o, ⟨eb, ec, en⟩)], k.done⟩) from KS.acc_ok (by rw [HCD.out, hh]; rfl))
         clear hno hh
         have hlc := HLc.out
         have hgj := HGJ.out.1
         have k7 := HFAR.out.1 (d + 1) (.cells #[.int .i64 o, .int .i64 eb, .int .i64 ec, .int .i64 en] 93)
         go_wp2_with fail
         go_region_law ((refine step_append_lies _ rfl (.tmp 77) (.tmp 81) 45 rfl 0 93 i0 z0 4 32 Tryz.underlying45 hi hz0 hz1 hz2 hz3 (by decide) (.slice la k.L.length lc) k.L.length (casesE k.L) rfl (HFAR.out.2.1 (d + 1) _) ⟨_, 0, none⟩ 1 1 (caseE (o, ⟨eb, ec, en⟩)) rfl rfl (World.news_of_block (heap_alloc_new _ _)) (by intro u hu; simp [caseE] at hu; rcases hu with rfl | rfl | rfl | rfl <;> rfl) (by decide) (by unfold maxLen; omega) (by omega) (Nat.zero_le _) _ rfl ?_; intro g cap w3 ho3 hg3 hor hlt3; obtain ⟨m1, m2⟩ := HFAR.out.2.2 (d + 1) _ _ hg3))
         all_goals
           have hend := HFIN.out (d + 1) g cap w3 _ hg3 ho3 (by simpa using hor) hlt3
           have HEND := Lib.hid hend
           clear hend ho3 hg3 hor hlt3
           go_wp2_with fail
           go_ret
           exact ⟨by rw [E.out]; rfl, by rw [E.out]; exact HEND.out⟩
end Go.Proofs.YtajnfkmkombajaaGreatDoor
namespace Go.Proofs.YtajnfkmkombajaaGreatDoor
open Go.RowKit Go.Maps
inductive RRole | none | top | row | wrow | bp (j : Nat) | bs (j : Nat) deriving DecidableEq
structure RLay where
 role : Nat → RRole
 g : Nat
 pb : Nat → Nat
 ps : Nat → Nat
 pc : Nat → Nat
def SS.rget (s : SS) (j : Nat) : Option QS := if j < 3 then s.P.getD j none else (s.W[j - 3]?).map (·.q)
theorem SS.rget_pool (s : SS) {j : Nat} (hj : j < 3) : s.rget j = s.pool j := by unfold SS.rget; rw [if_pos hj, SS.pool_nat]
theorem SS.rget_wait (s : SS) (i : Nat) : s.rget (i + 3) = (s.W[i]?).map (·.q) := by unfold SS.rget; rw [if_neg (by omega), Nat.add_sub_cancel]
def rptr (s : SS) (L : RLay) (j : Nat) : Value := if (s.rget j).isSome then .pointer (some ⟨L.pb j, 0, none⟩) else .pointer none
def waitE (L : RLay) (x : WP × Nat) : List Value := [.int .i64 x.1.b, .int .i64 x.1.c, .pointer (some ⟨L.pb (x.2 + 3), 0, none⟩)]
def waitsE (L : RLay) (l : List WP) : List Value := l.zipIdx.flatMap (waitE L)
structure RStL (sb : Nat) (L : RLay) (wv : Value) (s : SS) (w : World) : Prop where
 ok : s.Ok
 top : RowAt sb 85 [.slice (some ⟨L.g, 0, none⟩) 3 3, wv] w
 rtop : L.role sb = .top
 row : RowAt L.g 86 [rptr s L 0, rptr s L 1, rptr s L 2] w
 rrow : L.role L.g = .row
 wai : w.ownsRow 0 91 3 wv s.W.length (waitsE L s.W)
 rwai : ∀ h, wv.ownBlock = some h → L.role h = .wrow
 poo : ∀ j q, s.rget j = some q → RPoolAt (L.pb j) (L.ps j) (L.pc j) q w ∧ L.role (L.pb j) = .bp j ∧ L.role (L.ps j) = .bs j
def RStAt (sb : Nat) (F : Nat → Prop) (s : SS) (w : World) : Prop := ∃ L wv, RStL sb L wv s w ∧ (∀ b, L.role b ≠ .none → F b) ∧ ∀ b, F b → b < w.heap.size
def RStP (sb : Nat) (F : Nat → Prop) (s : SS) (w w' : World) : Prop := Keep F w w' ∧ RStAt sb (grownF F w w') s w'
section
variable {sb : Nat} {L : RLay} {wv : Value} {s : SS} {F G : Nat → Prop} {w w' : World}
theorem RStL.keep (h : RStL sb L wv s w) (K : Keep G w w') (hG : ∀ b, L.role b ≠ .none → ¬ G b) : RStL sb L wv s w' :=
 ⟨h.ok, h.top.keep K (hG _ (by rw [h.rtop]; simp)), h.rtop, h.row.keep K (hG _ (by rw [h.rrow]; simp)), h.rrow,
  ownsRow_other h.wai (fun g hg => K.block g (h.wai.lt g hg).2 (hG _ (by rw [h.rwai g hg]; simp))), h.rwai,
  fun j q hq => ⟨(h.poo j q hq).1.keep K (hG _ (by rw [(h.poo j q hq).2.1]; simp)) (hG _ (by rw [(h.poo j q hq).2.2]; simp)), (h.poo j q hq).2⟩⟩
theorem RStAt.keep (h : RStAt sb F s w) (K : Keep G w w') (hG : ∀ b, F b → ¬ G b) : RStAt sb F s w' := by
 obtain ⟨L, wv, h1, h2, h3⟩ := h
 exact ⟨L, wv, h1.keep K (fun b hb => hG _ (h2 b hb)), h2, fun b hb => Nat.lt_of_lt_of_le (h3 b hb) K.size⟩
theorem RStAt.below (h : RStAt sb F s w) (K : Below w.heap.size w w') : RStAt sb F s w' := h.keep (G := fun _ => False) (Keep.of_below K) (fun _ _ => id)
theorem RStAt.lt (h : RStAt sb F s w) : ∀ b, F b → b < w.heap.size := by obtain ⟨L, wv, h1, h2, h3⟩ := h; exact h3
theorem RStAt.foot (h : RStAt sb F s w) (hG : ∀ b, F b → G b) (hlt : ∀ b, G b → b < w.heap.size) : RStAt sb G s w := by
 obtain ⟨L, wv, h1, h2, h3⟩ := h
 exact ⟨L, wv, h1, fun b hb => hG _ (h2 b hb), hlt⟩
theorem RStP.of_below (h : RStAt sb F s w) (hb : Below w.heap.size w w') : RStP sb F s w w' :=
 ⟨Keep.of_below hb, (h.below hb).foot (fun _ hk => .inl hk) (grownF_lt (fun _ hk => h.lt _ hk) hb.size)⟩
theorem RStL.ptr (h : RStL sb L wv s w) {k : Nat} (hk : k < 3) : w.cell? ⟨L.g, k, none⟩ = some (rptr s L k) := by
 rw [h.row.cell]
 match k, hk with
 | 0, _ => rfl
 | 1, _ => rfl
 | 2, _ => rfl
theorem RStL.below (h : RStL sb L wv s w) (K : Below w.heap.size w w') : RStL sb L wv s w' := h.keep (G := fun _ => False) (Keep.of_below K) (fun _ _ => id)
end
set_option maxRecDepth 8000 in
theorem refs_Is (sb : Nat) (L : RLay) (wv : Value) (s : SS) (k : Int) (w : World) (h : RStL sb L wv s w) :
   Calls Tryz.prog 36 #[.pointer (some ⟨sb, 0, none⟩), .int .i64 k] w fun e w' => e = .returned (.bool (s.is k)) ∧ w = w' := by
 have t0 := h.top.cell 0
 simp only [List.getElem?_cons_zero] at t0
 by_cases hk : 0 ≤ k ∧ k < 3
 · obtain ⟨j, rfl⟩ := Int.eq_ofNat_of_zero_le hk.1
   have hj : j < 3 := by omega
   have hp := h.ptr hj
   have hi : s.is (j : Int) = (s.rget j).isSome := by unfold SS.is; rw [SS.rget_pool s hj]
   have x1 : decide ((j : Int) < 3) = true := by simp; omega
   rw [hi]
   unfold rptr at hp
   clear h hi
   cases hq : s.rget j with
   | none =>
     rw [hq] at hp
     simp only [Option.isSome_none, Bool.false_eq_true, if_false] at hp
     clear hq
     go_enter Tryz.func36, Tryz.ntmps36
     go_wp2
     go_ret
     exact ⟨rfl, rfl⟩
   | some q =>
     rw [hq] at hp
     simp only [Option.isSome_some, if_true] at hp
     clear hq
     go_enter Tryz.func36, Tryz.ntmps36
     go_wp2
     go_ret
     exact ⟨rfl, rfl⟩
 · have hi : s.is k = false := by
     unfold SS.is SS.pool
     by_cases h0 : 0 ≤ k
     · rw [if_pos h0, List.getD_eq_getElem?_getD, List.getElem?_eq_none (by rw [h.ok.three]; omega)]; rfl
     · rw [if_neg h0]; rfl
   rw [hi]
   have hcases : k < 0 ∨ (0 ≤ k ∧ 3 ≤ k) := by omega
   clear h hk hi t0
   rcases hcases with d | ⟨d, d2⟩
   all_goals
     go_enter Tryz.func36, Tryz.ntmps36
     go_wp2
     go_ret
     exact ⟨rfl, rfl⟩
theorem RStL.rd {sb : Nat} {L : RLay} {wv : Value} {s : SS} {w : World} (h : RStL sb L wv s w) : ∃ ao cap, wv = .slice ao s.W.length cap ∧ RdR (waitE L) 3 w ao s.W.length cap s.W.zipIdx := by
 have hw := h.wai
 unfold waitsE at hw
 have hv2 : ∃ ao cap, wv = .slice ao s.W.length cap := by
   rcases hw.2 with ⟨hv, hn⟩ | ⟨g, cap, cur, hv, r⟩
   · exact ⟨none, 0, by rw [hv, hn]⟩
   · exact ⟨_, cap, hv⟩
 obtain ⟨ao, cap, rfl⟩ := hv2
 exact ⟨ao, cap, rfl, RdR.of_row (fun _ => rfl) (by decide) hw⟩
theorem zip_get {l : List WP} {i : Nat} {x : WP} (h : l[i]? = some x) : l.zipIdx[i]? = some (x, i) := by
 rw [List.getElem?_zipIdx, h]; simp
def SS.idx (s : SS) (k c : Int) : Option Nat := s.W.findIdx? (·.at k c)
def idxV (o : Option Nat) : Int := match o with
 | some i => i
 | none => -1
set_option maxRecDepth 8000 in
theorem refs_find (sb : Nat) (L : RLay) (wv : Value) (s : SS) (k c : Int) (w : World) (h : RStL sb L wv s w) :
   Calls Tryz.prog 43 #[.pointer (some ⟨sb, 0, none⟩), .int .i64 k, .int .i64 c] w fun e w' => e = .returned (.int .i64 (idxV (s.idx k c))) ∧ w = w' := by
 obtain ⟨ao, cap, rfl, R⟩ := h.rd
 have t1 := h.top.cell 1
 simp only [List.getElem?_cons_zero, List.getElem?_cons_succ] at t1
 have hmx : s.W.length ≤ maxLen := Nat.le_trans R.lc R.cm
 unfold maxLen at hmx
 have HR := Lib.hid R; clear R h
 obtain ⟨res, hi⟩ : ∃ res, res = s.idx k c := ⟨_, rfl⟩
 rw [← hi]
 have HI := Lib.hid hi; clear hi
 generalize hlen : s.W.length = len at *
 go_enter Tryz.func43, Tryz.ntmps43
 go_wp2_with fail
 go_loopg [7] len (fun g i wr => ∃ t : Nat, wr = w ∧ g + t = len ∧ i = .int .i64 t ∧ ∀ j x, j < t → s.W[j]? = some x → x.at k c = false)
 case atStart => exact ⟨0, rfl, rfl, rfl, fun j x hj => by omega⟩
 case round =>
   obtain ⟨t, rfl, hg, rfl, hno⟩ := hrel
   have HN := Lib.hid hno; have HG := Lib.hid hg; clear hno hg
   by_cases hlt : t < len
   · obtain ⟨x, hx⟩ : ∃ x, s.W[t]? = some x := ⟨_, List.getElem?_eq_getElem (by omega)⟩
     obtain ⟨bb, off, rfl, hbl, hcs⟩ := HR.out.cells t _ (zip_get hx)
     have c0 := hcs 0 (by decide)
     have c1 := hcs 1 (by decide)
     simp only [waitE, List.getElem?_cons_zero, List.getElem?_cons_succ, Nat.add_zero] at c0 c1
     have HX := Lib.hid hx; have HL := Lib.hid hlen
     clear hcs hbl hx hlen
     by_cases hb : x.b = k
     · have e1 : (x.b == k) = true := by simp [hb]
       by_cases hc : x.c = c
       · have e2 : (x.c == c) = true := by simp [hc]
         have hres : res = some t := by
           rw [HI.out]; unfold SS.idx; rw [List.findIdx?_eq_some_iff_getElem]
           have hlt' : t < s.W.length := by rw [HL.out]; exact hlt
           have hxe : s.W[t] = x := by have := HX.out; rw [List.getElem?_eq_getElem hlt'] at this; exact Option.some.inj this
           refine ⟨hlt', by rw [hxe]; unfold WP.at; rw [e1, e2]; rfl, fun j hj => ?_⟩
           simpa using HN.out j _ hj (List.getElem?_eq_getElem (by omega))
         subst hres
         clear hb hc
         go_wp2_with fail
         go_ret
         exact ⟨rfl, rfl⟩
       · have e2 : (x.c == c) = false := by simp [hc]
         have HNX := Lib.hid (show x.at k c = false by unfold WP.at; rw [e2]; simp)
         clear hb hc
         go_wp2_with fail
         have hg := HG.out
         go_roundg (len - (t + 1))
         case measure => omega
         case rel => exact ⟨t + 1, rfl, by omega, by go_num, fun j y hj hy => by
           by_cases hjt : j = t
           · subst hjt; have := HX.out; rw [hy] at this; obtain rfl := Option.some.inj this; exact HNX.out
           · exact HN.out j y (by omega) hy⟩
     · have e1 : (x.b == k) = false := by simp [hb]
       have HNX := Lib.hid (show x.at k c = false by unfold WP.at; rw [e1]; simp)
       clear hb
       go_wp2_with fail
       have hg := HG.out
       go_roundg (len - (t + 1))
       case measure => omega
       case rel => exact ⟨t + 1, rfl, by omega, by go_num, fun j y hj hy => by
         by_cases hjt : j = t
         · subst hjt; have := HX.out; rw [hy] at this; obtain rfl := Option.some.inj this; exact HNX.out
         · exact HN.out j y (by omega) hy⟩
   · have hres : res = none := by
       rw [HI.out]; unfold SS.idx; rw [List.findIdx?_eq_none_iff]
       intro x hx
       obtain ⟨j, hj, rfl⟩ := List.mem_iff_getElem.1 hx
       exact HN.out j _ (by omega) (List.getElem?_eq_getElem hj)
     subst hres
     go_wp2_with fail
     go_ret
     exact ⟨rfl, rfl⟩
end Go.Proofs.YtajnfkmkombajaaGreatDoor
namespace Go.Proofs.YtajnfkmkombajaaGreatDoor
open Go.RowKit Go.Maps
theorem RStL.yes {sb : Nat} {L : RLay} {wv : Value} {s : SS} {w : World} (h : RStL sb L wv s w) {k : Int} (hi : s.is k = true) :
   ∃ (j : Nat) (q : QS), k = j ∧ j < 3 ∧ s.pool k = some q ∧ s.rget j = some q ∧ w.cell? ⟨L.g, j, none⟩ = some (.pointer (some ⟨L.pb j, 0, none⟩)) := by
 unfold SS.is at hi
 obtain ⟨q, hq⟩ := Option.isSome_iff_exists.1 hi
 obtain ⟨h0, h3⟩ := h.ok.lt hq
 obtain ⟨j, rfl⟩ := Int.eq_ofNat_of_zero_le h0
 have hj : j < 3 := by omega
 have hr : s.rget j = some q := by rw [SS.rget_pool s hj]; exact hq
 refine ⟨j, q, rfl, hj, hq, hr, ?_⟩
 have := h.ptr hj
 unfold rptr at this
 rw [hr] at this
 simpa using this
section
variable (sb : Nat) (L : RLay) (wv : Value) (s : SS) (w : World)
set_option maxRecDepth 8000 in
theorem refs_Staked (k : Int) (h : RStL sb L wv s w) :
   Calls Tryz.prog 27 #[.pointer (some ⟨sb, 0, none⟩), .int .i64 k] w fun e w' => e = .returned (.int .i64 (s.staked k)) ∧ w = w' := by
 have HI := Lib.hid (refs_Is sb L wv s k w h)
 by_cases hi : s.is k = true
 · obtain ⟨j, q, rfl, hj, hq, hr, hp⟩ := h.yes hi
   have t0 := h.top.cell 0
   have q0 := (h.poo j q hr).1.row.cell 0
   simp only [List.getElem?_cons_zero] at t0 q0
   have hs : s.staked (j : Int) = q.total := by unfold SS.staked; rw [hq]; rfl
   rw [hs]
   rw [hi] at HI
   clear h hi hq hr hs
   go_enter Tryz.func27, Tryz.ntmps27
   go_wp2_with fail
   refine HI.out.mono ?_
   rintro e w1 ⟨rfl, rfl⟩
   go_wp2_with fail
   go_ret
   exact ⟨rfl, rfl⟩
 · have hi' : s.is k = false := by simpa using hi
   have hs : s.staked k = 0 := by
     unfold SS.is at hi'; unfold SS.staked
     rw [Option.isSome_eq_false_iff, Option.isNone_iff_eq_none] at hi'; rw [hi']; rfl
   rw [hs]
   rw [hi'] at HI
   clear h hi hi' hs
   go_enter Tryz.func27, Tryz.ntmps27
   go_wp2_with fail
   refine HI.out.mono ?_
   rintro e w1 ⟨rfl, rfl⟩
   go_wp2_with fail
   go_ret
   exact ⟨rfl, rfl⟩
set_option maxRecDepth 8000 in
theorem refs_Value (o k : Int) (h : RStL sb L wv s w) :
   Calls Tryz.prog 28 #[.pointer (some ⟨sb, 0, none⟩), .int .i64 o, .int .i64 k] w fun e w' => e = .returned (.int .i64 (s.value o k)) ∧ Dr w w' := by
 have HI := Lib.hid (refs_Is sb L wv s k w h)
 by_cases hi : s.is k = true
 · obtain ⟨j, q, rfl, hj, hq, hr, hp⟩ := h.yes hi
   have t0 := h.top.cell 0
   simp only [List.getElem?_cons_zero] at t0
   have HV := Lib.hid (refq_Value (L.pb j) (L.ps j) (L.pc j) q o w (h.poo j q hr).1)
   have hs : s.value o (j : Int) = q.value o := by unfold SS.value; rw [hq]; rfl
   rw [hs]
   rw [hi] at HI
   clear h hi hq hr hs
   go_enter Tryz.func28, Tryz.ntmps28
   go_wp2_with fail
   refine HI.out.mono ?_
   rintro e w1 ⟨rfl, rfl⟩
   go_wp2_with fail
   refine HV.out.mono ?_
   rintro e w1 ⟨rfl, hd⟩
   go_wp2_with fail
   go_ret
   exact ⟨rfl, hd⟩
 · have hi' : s.is k = false := by simpa using hi
   have hs : s.value o k = 0 := by
     unfold SS.is at hi'; unfold SS.value
     rw [Option.isSome_eq_false_iff, Option.isNone_iff_eq_none] at hi'; rw [hi']; rfl
   rw [hs]
   rw [hi'] at HI
   clear h hi hi' hs
   go_enter Tryz.func28, Tryz.ntmps28
   go_wp2_with fail
   refine HI.out.mono ?_
   rintro e w1 ⟨rfl, rfl⟩
   go_wp2_with fail
   go_ret
   exact ⟨rfl, Dr.refl _⟩
theorem SS.idx_find (s : SS) (k c : Int) : (s.idx k c = none ∧ s.find k c = none) ∨ ∃ i x, s.idx k c = some i ∧ s.W[i]? = some x ∧ s.find k c = some x.q ∧ x.b = k ∧ x.c = c := by
 unfold SS.idx SS.find
 cases hx : s.W.findIdx? (·.at k c) with
 | none =>
   refine .inl ⟨rfl, ?_⟩
   rw [List.findIdx?_eq_none_iff] at hx
   have : s.W.find? (·.at k c) = none := List.find?_eq_none.2 (fun x h => by simp [hx x h])
   rw [this]; rfl
 | some i =>
   refine .inr ?_
   rw [List.findIdx?_eq_some_iff_getElem] at hx
   obtain ⟨hi, ha, hn⟩ := hx
   refine ⟨i, s.W[i], rfl, List.getElem?_eq_getElem hi, ?_, ?_⟩
   · have : s.W.find? (·.at k c) = some s.W[i] := by
       rw [List.find?_eq_some_iff_getElem]
       exact ⟨ha, i, hi, rfl, fun j hj => by simpa using hn j hj⟩
     rw [this]; rfl
   · unfold WP.at at ha; simpa using ha
set_option maxRecDepth 8000 in
theorem refs_Waits (o k c : Int) (h : RStL sb L wv s w) :
   Calls Tryz.prog 29 #[.pointer (some ⟨sb, 0, none⟩), .int .i64 o, .int .i64 k, .int .i64 c] w fun e w' => e = .returned (.int .i64 (s.waits o k c)) ∧ Dr w w' := by
 have HF := Lib.hid (refs_find sb L wv s k c w h)
 rcases s.idx_find k c with ⟨i1, i2⟩ | ⟨i, x, i1, i2, i3, -⟩
 · have hs : s.waits o k c = 0 := by unfold SS.waits; rw [i2]; rfl
   rw [hs]
   rw [i1] at HF
   clear h i1 i2 hs
   unfold idxV at HF
   go_enter Tryz.func29, Tryz.ntmps29
   go_wp2_with fail
   refine HF.out.mono ?_
   rintro e w1 ⟨rfl, rfl⟩
   go_wp2_with fail
   go_ret
   exact ⟨rfl, Dr.refl _⟩
 · have hs : s.waits o k c = x.q.value o := by unfold SS.waits; rw [i3]; rfl
   have hlt : i < s.W.length := (List.getElem?_eq_some_iff.1 i2).1
   obtain ⟨ao, cap, rfl, R⟩ := h.rd
   have hmx : s.W.length ≤ maxLen := Nat.le_trans R.lc R.cm
   unfold maxLen at hmx
   have t1 := h.top.cell 1
   simp only [List.getElem?_cons_zero, List.getElem?_cons_succ] at t1
   obtain ⟨bb, off, rfl, hbl, hcs⟩ := R.cells i _ (zip_get i2)
   have c2 := hcs 2 (by decide)
   simp only [waitE, List.getElem?_cons_zero, List.getElem?_cons_succ] at c2
   have HV := Lib.hid (refq_Value (L.pb (i + 3)) (L.ps (i + 3)) (L.pc (i + 3)) x.q o w (h.poo (i + 3) x.q (by rw [SS.rget_wait, i2]; rfl)).1)
   rw [hs]
   rw [i1] at HF
   unfold idxV at HF
   simp only at HF
   generalize s.W.length = len at *
   clear h i1 i2 i3 hs R hcs
   go_enter Tryz.func29, Tryz.ntmps29
   go_wp2_with fail
   refine HF.out.mono ?_
   rintro e w1 ⟨rfl, rfl⟩
   go_wp2_with fail
   refine HV.out.mono ?_
   rintro e w1 ⟨rfl, hd⟩
   go_wp2_with fail
   go_ret
   exact ⟨rfl, hd⟩
end
end Go.Proofs.YtajnfkmkombajaaGreatDoor
namespace Go.Proofs.YtajnfkmkombajaaGreatDoor
open Go.RowKit Go.Maps
theorem RStL.pool {sb : Nat} {L : RLay} {wv : Value} {s s' : SS} {w w' : World} (h : RStL sb L wv s w) {j : Nat} {q q' : QS} (hq : s.rget j = some q) (hP : RPoolP (L.pb j) (L.ps j) (L.pc j) q' w w')
   (hok : s'.Ok) (hr : ∀ i, s'.rget i = if i = j then some q' else s.rget i) (hlen : s'.W.length = s.W.length) (hwe : waitsE L s'.W = waitsE L s.W) : RStL sb L wv s' w' := by
 obtain ⟨K, hp⟩ := hP
 obtain ⟨-, rb, rs⟩ := h.poo j q hq
 have far : ∀ b, L.role b ≠ .bp j → L.role b ≠ .bs j → ¬ (b = L.pb j ∨ b = L.ps j) := fun b h1 h2 hb => by
   rcases hb with rfl | rfl
   · exact h1 rb
   · exact h2 rs
 have hpt : ∀ i, rptr s' L i = rptr s L i := fun i => by
   unfold rptr; rw [hr i]
   by_cases hi : i = j
   · subst hi; rw [if_pos rfl, hq]; rfl
   · rw [if_neg hi]
 refine ⟨hok, h.top.keep K (far _ (by rw [h.rtop]; simp) (by rw [h.rtop]; simp)), h.rtop, ?_, h.rrow, ?_, h.rwai, ?_⟩
 · rw [hpt 0, hpt 1, hpt 2]; exact h.row.keep K (far _ (by rw [h.rrow]; simp) (by rw [h.rrow]; simp))
 · rw [hlen, hwe]
   exact ownsRow_other h.wai (fun g hg => K.block g (h.wai.lt g hg).2 (far _ (by rw [h.rwai g hg]; simp) (by rw [h.rwai g hg]; simp)))
 · intro i q2 hq2
   rw [hr i] at hq2
   by_cases hi : i = j
   · subst hi; rw [if_pos rfl] at hq2; obtain rfl := Option.some.inj hq2
     exact ⟨hp, rb, rs⟩
   · rw [if_neg hi] at hq2
     obtain ⟨p1, p2, p3⟩ := h.poo i q2 hq2
     exact ⟨p1.keep K (far _ (by rw [p2]; simpa using hi) (by rw [p2]; simp)) (far _ (by rw [p3]; simp) (by rw [p3]; simpa using hi)), p2, p3⟩
theorem SS.rget_setP {s : SS} (h : s.Ok) {j : Nat} (hj : j < 3) (q : QS) (i : Nat) : (s.setP (j : Int) q).rget i = if i = j then some q else s.rget i := by
 by_cases hi : i < 3
 · rw [SS.rget_pool _ hi, SS.rget_pool _ hi, SS.pool_setP h (by omega) (by omega)]
   by_cases e : i = j
   · rw [if_pos (by omega), if_pos e]
   · rw [if_neg (by omega), if_neg e]
 · have : i ≠ j := by omega
   rw [if_neg this]
   unfold SS.rget; rw [if_neg hi, if_neg hi]; rfl
theorem RStL.setP {sb : Nat} {L : RLay} {wv : Value} {s : SS} {w w' : World} {F : Nat → Prop} (h : RStL sb L wv s w) (hF : ∀ b, L.role b ≠ .none → F b) (hlt : ∀ b, F b → b < w.heap.size) {j : Nat} (hj : j < 3) {q q' : QS} (hq : s.rget j = some q) (hP : RPoolP (L.pb j) (L.ps j) (L.pc j) q' w w') (hok : (s.setP (j : Int) q').Ok) :
   RStP sb F (s.setP (j : Int) q') w w' := by
 obtain ⟨-, rb, rs⟩ := h.poo j q hq
 have hl := h.pool hq hP hok (SS.rget_setP h.ok hj q') rfl rfl
 refine ⟨hP.1.mono (fun b hb => ?_), L, wv, hl, fun b hb => .inl (hF b hb), grownF_lt hlt hP.1.size⟩
 rcases hb with rfl | rfl
 · exact hF _ (by rw [rb]; simp)
 · exact hF _ (by rw [rs]; simp)
section
variable (sb : Nat) (F : Nat → Prop) (s : SS) (w : World)
set_option maxRecDepth 8000 in
theorem refs_Join (o k n : Int) (h : RStAt sb F s w) :
   Calls Tryz.prog 15 #[.pointer (some ⟨sb, 0, none⟩), .int .i64 o, .int .i64 k, .int .i64 n] w fun e w' => e = .returned (.int .i64 (s.joinOp o k n).1) ∧ RStP sb F (s.joinOp o k n).2 w w' := by
 have HA := Lib.hid h
 obtain ⟨L, wv, hL, hF, hlt⟩ := h
 have HI := Lib.hid (refs_Is sb L wv s k w hL)
 have hok := SS.joinOp_ok hL.ok o k n
 by_cases hi : s.is k = true
 · obtain ⟨j, q, rfl, hj, hq, hr, hp⟩ := hL.yes hi
   have t0 := hL.top.cell 0
   simp only [List.getElem?_cons_zero] at t0
   have e : s.joinOp o (j : Int) n = ((q.joinOp o n).1, s.setP (j : Int) (q.joinOp o n).2) := by unfold SS.joinOp; rw [hq]
   rw [e] at hok ⊢
   have HJ := Lib.hid (refq_Join (L.pb j) (L.ps j) (L.pc j) q o n w (hL.poo j q hr).1)
   have HS := Lib.hid (fun w' hP => hL.setP (w' := w') hF hlt hj hr hP hok)
   rw [hi] at HI
   clear hL hF hlt hi hq hr e hok HA
   go_enter Tryz.func15, Tryz.ntmps15
   go_wp2_with fail
   refine HI.out.mono ?_
   rintro e w1 ⟨rfl, rfl⟩
   go_wp2_with fail
   refine HJ.out.mono ?_
   rintro e w1 ⟨rfl, hP⟩
   have HP := Lib.hid hP; clear hP
   go_wp2_with fail
   go_ret
   exact ⟨rfl, HS.out _ HP.out⟩
 · have hi' : s.is k = false := by simpa using hi
   have e : s.joinOp o k n = (4, s) := by
     unfold SS.is at hi'; unfold SS.joinOp
     rw [Option.isSome_eq_false_iff, Option.isNone_iff_eq_none] at hi'; rw [hi']
   rw [e]
   rw [hi'] at HI
   clear hL hF hlt hi hi' e hok
   go_enter Tryz.func15, Tryz.ntmps15
   go_wp2_with fail
   refine HI.out.mono ?_
   rintro e w1 ⟨rfl, rfl⟩
   go_wp2_with fail
   go_ret
   exact ⟨rfl, RStP.of_below HA.out (Below.refl _ _)⟩
set_option maxRecDepth 8000 in
theorem refs_Add (k n : Int) (h : RStAt sb F s w) :
   Calls Tryz.prog 75 #[.pointer (some ⟨sb, 0, none⟩), .int .i64 k, .int .i64 n] w fun e w' => e = .returned (.int .i64 (s.addOp k n).1) ∧ RStP sb F (s.addOp k n).2 w w' := by
 have HA := Lib.hid h
 obtain ⟨L, wv, hL, hF, hlt⟩ := h
 have HI := Lib.hid (refs_Is sb L wv s k w hL)
 have hok := SS.addOp_ok hL.ok k n
 by_cases hi : s.is k = true
 · obtain ⟨j, q, rfl, hj, hq, hr, hp⟩ := hL.yes hi
   have t0 := hL.top.cell 0
   simp only [List.getElem?_cons_zero] at t0
   have e : s.addOp (j : Int) n = ((q.addOp n).1, s.setP (j : Int) (q.addOp n).2) := by unfold SS.addOp; rw [hq]
   rw [e] at hok ⊢
   have HJ := Lib.hid (refq_Add (L.pb j) (L.ps j) (L.pc j) q n w (hL.poo j q hr).1)
   have HS := Lib.hid (fun w' hP => hL.setP (w' := w') hF hlt hj hr hP hok)
   rw [hi] at HI
   clear hL hF hlt hi hq hr e hok HA
   go_enter Tryz.func75, Tryz.ntmps75
   go_wp2_with fail
   refine HI.out.mono ?_
   rintro e w1 ⟨rfl, rfl⟩
   go_wp2_with fail
   refine HJ.out.mono ?_
   rintro e w1 ⟨rfl, hP⟩
   have HP := Lib.hid hP; clear hP
   go_wp2_with fail
   go_ret
   exact ⟨rfl, HS.out _ HP.out⟩
 · have hi' : s.is k = false := by simpa using hi
   have e : s.addOp k n = (4, s) := by
     unfold SS.is at hi'; unfold SS.addOp
     rw [Option.isSome_eq_false_iff, Option.isNone_iff_eq_none] at hi'; rw [hi']
   rw [e]
   rw [hi'] at HI
   clear hL hF hlt hi hi' e hok
   go_enter Tryz.func75, Tryz.ntmps75
   go_wp2_with fail
   refine HI.out.mono ?_
   rintro e w1 ⟨rfl, rfl⟩
   go_wp2_with fail
   go_ret
   exact ⟨rfl, RStP.of_below HA.out (Below.refl _ _)⟩
end
end Go.Proofs.YtajnfkmkombajaaGreatDoor
namespace Go.Proofs.YtajnfkmkombajaaGreatDoor
open Go.RowKit Go.Maps
end Go.Proofs.YtajnfkmkombajaaGreatDoor
namespace Go.Proofs.YtajnfkmkombajaaGreatDoor
open Go.RowKit Go.Maps
def WP.bc (x : WP) : Int × Int := (x.b, x.c)
theorem waitsE_same (L : RLay) : ∀ (l l' : List WP) (n : Nat), l.map WP.bc = l'.map WP.bc → (l.zipIdx n).flatMap (waitE L) = (l'.zipIdx n).flatMap (waitE L)
 | [], [], _, _ => rfl
 | [], _ :: _, _, h => by cases h
 | _ :: _, [], _, h => by cases h
 | x :: l, y :: l', n, h => by
   simp only [List.map_cons, List.cons.injEq, WP.bc, Prod.mk.injEq] at h
   rw [List.zipIdx_cons, List.zipIdx_cons, List.flatMap_cons, List.flatMap_cons, waitsE_same L l l' (n + 1) h.2]
   unfold waitE; rw [h.1.1, h.1.2]
theorem SS.Ok.same {s : SS} (h : s.Ok) {W' : List WP} (hbc : W'.map WP.bc = s.W.map WP.bc) (hq : ∀ x ∈ W', x.q.Ok) : SS.Ok ⟨s.P, W'⟩ := by
 refine ⟨h.three, h.pools, fun x hx => ?_, ?_⟩
 · have hm : x.bc ∈ s.W.map WP.bc := by rw [← hbc]; exact List.mem_map_of_mem hx
   obtain ⟨y, hy, he⟩ := List.mem_map.1 hm
   obtain ⟨-, w2, w3⟩ := h.waits y hy
   simp only [WP.bc, Prod.mk.injEq] at he
   rw [← he.1, ← he.2]
   exact ⟨hq x hx, w2, w3⟩
 · have h1 : (s.W.map WP.bc).Pairwise (fun a b => ¬ (a.1 = b.1 ∧ a.2 = b.2)) := List.pairwise_map.2 h.apart
   rw [← hbc] at h1
   exact List.pairwise_map.1 h1
theorem set_bc {l : List WP} {i : Nat} {x : WP} (hx : l[i]? = some x) (q : QS) : (l.set i ⟨x.b, x.c, q⟩).map WP.bc = l.map WP.bc := by
 apply List.ext_getElem?
 intro m
 rw [List.getElem?_map, List.getElem?_map, List.getElem?_set]
 by_cases h : i = m
 · subst h
   rw [if_pos rfl, hx]
   have hl : i < l.length := (List.getElem?_eq_some_iff.1 hx).1
   rw [if_pos hl]; rfl
 · rw [if_neg h]
theorem RStL.wait {sb : Nat} {L : RLay} {wv : Value} {s : SS} {w w' : World} (h : RStL sb L wv s w) {i : Nat} {x : WP} {q' : QS} (hx : s.W[i]? = some x) (hP : RPoolP (L.pb (i + 3)) (L.ps (i + 3)) (L.pc (i + 3)) q' w w') :
   RStL sb L wv ⟨s.P, s.W.set i ⟨x.b, x.c, q'⟩⟩ w' := by
 have hl : i < s.W.length := (List.getElem?_eq_some_iff.1 hx).1
 refine h.pool (j := i + 3) (q := x.q) (by rw [SS.rget_wait, hx]; rfl) hP ?_ ?_ (List.length_set ..) ?_
 · refine h.ok.same (set_bc hx q') (fun y hy => ?_)
   rcases List.mem_or_eq_of_mem_set hy with hy | rfl
   · exact (h.ok.waits y hy).1
   · exact hP.2.ok
 · intro j
   by_cases hj : j < 3
   · rw [if_neg (by omega)]; unfold SS.rget; rw [if_pos hj, if_pos hj]
   · obtain ⟨m, rfl⟩ : ∃ m, j = m + 3 := ⟨j - 3, by omega⟩
     rw [SS.rget_wait, SS.rget_wait, List.getElem?_set]
     by_cases hm : i = m
     · subst hm; rw [if_pos rfl, if_pos hl, if_pos rfl]; rfl
     · rw [if_neg hm, if_neg (by omega)]
 · exact waitsE_same L _ _ 0 (set_bc hx q')
def partW (f : WP → WP) (l : List WP) (i : Nat) : List WP := l.mapIdx fun j x => if j < i then f x else x
theorem partW_get (f : WP → WP) (l : List WP) (i j : Nat) : (partW f l i)[j]? = (l[j]?).map (fun x => if j < i then f x else x) := by
 unfold partW; rw [List.getElem?_mapIdx]
theorem partW_len (f : WP → WP) (l : List WP) (i : Nat) : (partW f l i).length = l.length := List.length_mapIdx
theorem partW_zero (f : WP → WP) (l : List WP) : partW f l 0 = l := by
 apply List.ext_getElem?
 intro j; rw [partW_get]; cases l[j]? <;> simp
theorem partW_all (f : WP → WP) (l : List WP) : partW f l l.length = l.map f := by
 apply List.ext_getElem?
 intro j; rw [partW_get, List.getElem?_map]
 by_cases hj : j < l.length
 · rw [List.getElem?_eq_getElem hj]; simp [hj]
 · rw [List.getElem?_eq_none (by omega)]; rfl
theorem partW_here {f : WP → WP} {l : List WP} {i : Nat} {x : WP} (hx : l[i]? = some x) : (partW f l i)[i]? = some x := by rw [partW_get, hx]; simp
theorem partW_step {f : WP → WP} {l : List WP} {i : Nat} {x : WP} (hx : l[i]? = some x) : (partW f l i).set i (f x) = partW f l (i + 1) := by
 have hl : i < l.length := (List.getElem?_eq_some_iff.1 hx).1
 apply List.ext_getElem?
 intro j
 rw [List.getElem?_set, partW_get, partW_get, partW_len]
 by_cases hj : i = j
 · subst hj; rw [if_pos rfl, if_pos hl, hx]; simp
 · rw [if_neg hj]
   congr 1
   funext y
   by_cases h1 : j < i
   · rw [if_pos h1, if_pos (by omega)]
   · rw [if_neg h1, if_neg (by omega)]
theorem partW_same {f : WP → WP} {l : List WP} {i : Nat} {x : WP} (hx : l[i]? = some x) (hf : f x = x) : partW f l (i + 1) = partW f l i := by
 rw [← partW_step hx, hf]
 apply List.ext_getElem?
 intro j
 rw [List.getElem?_set]
 by_cases hj : i = j
 · subst hj; rw [if_pos rfl, partW_here hx, if_pos (by rw [partW_len]; exact (List.getElem?_eq_some_iff.1 hx).1)]
 · rw [if_neg hj]
end Go.Proofs.YtajnfkmkombajaaGreatDoor
