/- The document's court in memory: Accuse. -/
import Derived.Test.YtajnfkmkombajabDoorCourt2
import Derived.Test.YtajnfkmkombajabDoorRefPurse
import Derived.Test.YtajnfkmkombajabDoorEvEq
import Derived.Deep.RegionLaw
import Derived.Deep.AppendLies
import Derived.Deep.LoopGhost
import Derived.Deep.QuietTactic
import Derived.BigQuiet
set_option linter.unusedVariables false
set_option linter.unusedSimpArgs false
namespace Go.Proofs.YtajnfkmkombajabDoor
open Go.RowKit Go.Maps

theorem caseE_len (x : Int × EV) : (caseE x).length = 4 := rfl
structure RCL (rb : Nat) (lv : Value) (k : KS) (w : World) : Prop where
  row : RowAt rb 41 [lv, .int .i64 k.done] w
  l : w.ownsRow 0 43 4 lv k.L.length (casesE k.L)
  nl : lv.ownBlock ≠ some rb
  done : k.done ≤ k.L.length
/-- block rb is the document's court that holds k, among the blocks F -/
def RCourtAt (rb : Nat) (F : Nat → Prop) (k : KS) (w : World) : Prop := ∃ lv, RCL rb lv k w ∧ F rb ∧ (∀ g, lv.ownBlock = some g → F g) ∧ ∀ b, F b → b < w.heap.size
def RCourtP (rb : Nat) (F : Nat → Prop) (k : KS) (w w' : World) : Prop := Keep F w w' ∧ RCourtAt rb (grownF F w w') k w'
section
variable {rb : Nat} {lv : Value} {k : KS} {F G : Nat → Prop} {w w' : World}
theorem RCL.keep (h : RCL rb lv k w) (K : Keep G w w') (h1 : ¬ G rb) (h3 : ∀ g, lv.ownBlock = some g → ¬ G g) : RCL rb lv k w' :=
  ⟨h.row.keep K h1, ownsRow_other h.l (fun g hg => K.block g (h.l.lt g hg).2 (h3 g hg)), h.nl, h.done⟩
theorem RCourtAt.keep (h : RCourtAt rb F k w) (K : Keep G w w') (hG : ∀ b, F b → ¬ G b) : RCourtAt rb F k w' := by
  obtain ⟨lv, h1, h2, h4, h5⟩ := h
  exact ⟨lv, h1.keep K (hG _ h2) (fun g hg => hG _ (h4 g hg)), h2, h4, fun b hb => Nat.lt_of_lt_of_le (h5 b hb) K.size⟩
theorem RCourtAt.below (h : RCourtAt rb F k w) (K : Below w.heap.size w w') : RCourtAt rb F k w' := h.keep (G := fun _ => False) (Keep.of_below K) (fun _ _ => id)
theorem RCourtAt.lt (h : RCourtAt rb F k w) : ∀ b, F b → b < w.heap.size := by obtain ⟨lv, h1, h2, h3, h4⟩ := h; exact h4
theorem RCourtAt.foot (h : RCourtAt rb F k w) (hG : ∀ b, F b → G b) (hlt : ∀ b, G b → b < w.heap.size) : RCourtAt rb G k w := by
  obtain ⟨lv, h1, h2, h3, h4⟩ := h
  exact ⟨lv, h1, hG _ h2, fun g hg => hG _ (h3 g hg), hlt⟩
theorem RCourtP.of_below (h : RCourtAt rb F k w) (hb : Below w.heap.size w w') : RCourtP rb F k w w' :=
  ⟨Keep.of_below hb, (h.below hb).foot (fun _ hk => .inl hk) (grownF_lt (fun _ hk => h.lt _ hk) hb.size)⟩
theorem RCL.added {lv' : Value} {x : Int × EV} {w1 : World} (h : RCL rb lv k w) (hr : RowAt rb 41 [lv', .int .i64 k.done] w1) (hl : w1.ownsRow 0 43 4 lv' (k.L.length + 1) (casesE k.L ++ caseE x)) (hn : lv'.ownBlock ≠ some rb) : RCL rb lv' ⟨k.L ++ [x], k.done⟩ w1 :=
  ⟨hr, by simp only; rw [casesE_snoc, List.length_append]; exact hl, hn, by have := h.done; simp; omega⟩
theorem RCL.finish {w1 w3 : World} {g cap : Nat} {x : Int × EV} {ob : Obj} {i : Nat} (hL : RCL rb lv k w) (hF1 : F rb) (hF3 : ∀ g, lv.ownBlock = some g → F g) (hlt : ∀ b, F b → b < w.heap.size) (hb1 : Below w.heap.size w w1)
    (hg : ((w1.drewN i).alloc ob).grownBy w3 lv.ownBlock) (ho : w3.ownsRow 0 43 4 (.slice (some ⟨g, 0, none⟩) (k.L.length + 1) cap) (k.L.length + 1) (casesE k.L ++ caseE x))
    (hor : lv.ownBlock = some g ∨ g = w1.heap.size + 1) (hgl : g < w3.heap.size) :
    RCourtP rb F ⟨k.L ++ [x], k.done⟩ w (w3.setCell ⟨rb, 0, none⟩ (.slice (some ⟨g, 0, none⟩) (k.L.length + 1) cap)) := by
  have KG : ∀ G : Nat → Prop, (∀ g, lv.ownBlock = some g → G g) → Keep G w w3 := fun G h2 =>
    (((Keep.of_below (F := G) hb1).drewN i).alloc ob).grown hg (fun k hk => .inl (h2 k hk))
  have hs := hb1.size
  have hrb := hL.row.lt
  have hgk : g ≠ rb := by
    rcases hor with h | h
    · exact fun e => hL.nl (by rw [h, e])
    · omega
  have K5 : Keep F w (w3.setCell ⟨rb, 0, none⟩ (.slice (some ⟨g, 0, none⟩) (k.L.length + 1) cap)) := (KG F hF3).setCell (p := ⟨rb, 0, none⟩) (.inl hF1) _
  have hrow : RowAt rb 41 [lv, .int .i64 k.done] w3 := hL.row.keep (KG (fun b => lv.ownBlock = some b) (fun g h => h)) hL.nl
  have hset := hrow.set 0 (.slice (some ⟨g, 0, none⟩) (k.L.length + 1) cap)
  refine ⟨K5, .slice (some ⟨g, 0, none⟩) (k.L.length + 1) cap, hL.added hset ?_ (by simpa [Value.ownBlock] using hgk), .inl hF1, fun g' hg' => ?_, grownF_lt hlt K5.size⟩
  · refine ownsRow_other ho (fun g' hg' => ?_)
    have : g' = g := by simpa [Value.ownBlock] using hg'.symm
    subst this
    exact Below.heap_setCell _ _ _ _ hgk
  · have : g' = g := by simpa [Value.ownBlock] using hg'.symm
    subst this
    rcases hor with h | h
    · exact .inl (hF3 _ h)
    · exact .inr ⟨by omega, by simpa [World.setCell] using hgl⟩
end
theorem infoRCase : (Tryd.prog.info? 43).map (fun i => (i.zero.map (fun z => z.cells.size), i.size, i.bytes)) = some (some 4, 4, 32) := by kernel_rfl
theorem info_rcase : ∃ i z, Tryd.prog.info? 43 = some i ∧ i.zero = some z ∧ i.size = 4 ∧ i.bytes = 32 ∧ z.cells.size = 4 := by
  have h := infoRCase
  cases hi : Tryd.prog.info? 43 with
  | none => rw [hi] at h; cases h
  | some i =>
    rw [hi] at h
    simp only [Option.map_some, Option.some.injEq, Prod.mk.injEq] at h
    obtain ⟨h1, h2, h3⟩ := h
    cases hz : i.zero with
    | none => rw [hz] at h1; cases h1
    | some z => rw [hz] at h1; simp at h1; exact ⟨i, z, rfl, hz, h2, h3, h1⟩

/-- behind the call's own box of the evidence -/
structure RAccB (w : World) (rb : Nat) (lv : Value) (k : KS) (e : EV) (w1 : World) : Prop where
  below : Below w.heap.size w w1
  e0 : w1.cell? ⟨w.heap.size, 0, none⟩ = some (.int .i64 e.b)
  e1 : w1.cell? ⟨w.heap.size, 1, none⟩ = some (.int .i64 e.c)
  e2 : w1.cell? ⟨w.heap.size, 2, none⟩ = some (.int .i64 e.n)
  c0 : w1.cell? ⟨rb, 0, none⟩ = some lv
  l : w1.ownsRow 0 43 4 lv k.L.length (casesE k.L)
  far : (∀ i ob, ((w1.drewN i).alloc ob).cell? ⟨rb, 0, none⟩ = some lv) ∧ (∀ i ob, ((w1.drewN i).alloc ob).ownsRow 0 43 4 lv k.L.length (casesE k.L)) ∧
    ∀ i ob w3, ((w1.drewN i).alloc ob).grownBy w3 lv.ownBlock → w3.cell? ⟨rb, 0, none⟩ = some lv ∧ w3.frozen? ⟨rb, 0, none⟩ = false
theorem RAccB.of {w : World} {rb : Nat} {lv : Value} {k : KS} {e : EV} (hL : RCL rb lv k w) : RAccB w rb lv k e (w.alloc (.cells #[.int .i64 e.b, .int .i64 e.c, .int .i64 e.n] 28)) := by
  have hb : Below w.heap.size w (w.alloc (.cells #[.int .i64 e.b, .int .i64 e.c, .int .i64 e.n] 28)) := (Below.refl _ _).alloc (Nat.le_refl _) _
  have hL1 : RCL rb lv k (w.alloc (.cells #[.int .i64 e.b, .int .i64 e.c, .int .i64 e.n] 28)) := hL.keep (G := fun _ => False) (Keep.of_below hb) id (fun _ _ => id)
  refine ⟨hb, by simp [go_sem], by simp [go_sem], by simp [go_sem], hL1.row.cell 0, hL1.l, fun i ob => ((hL1.row.drewN i).alloc ob).cell 0, fun i ob => ?_, fun i ob w3 hg => ?_⟩
  · exact ownsRow_other hL1.l (fun g hg => Below.heap_alloc _ _ _ (hL1.l.lt g hg).2)
  · have hr3 : RowAt rb 41 [lv, .int .i64 k.done] w3 := hL1.row.keep ((((Keep.refl (fun b => lv.ownBlock = some b) _).drewN i).alloc ob).grown hg (fun k hk => .inl hk)) hL.nl
    exact ⟨hr3.cell 0, hr3.frozen 0⟩
theorem KS.has_iff {k : KS} {e : EV} : k.has e = true ↔ ∃ x ∈ k.L, x.2 = e := by unfold KS.has; rw [List.any_eq_true]; simp

set_option maxRecDepth 8000 in
set_option maxHeartbeats 2000000 in
theorem ref_CourtAccuse (rb : Nat) (F : Nat → Prop) (k : KS) (o : Int) (e : EV) (cy : Int) (w : World) (h : RCourtAt rb F k w) (hk : k.L.length ≤ 1000000) :
    Calls Tryd.prog 20 #[.pointer (some ⟨rb, 0, none⟩), .int .i64 o, evV e, .int .i64 cy] w fun y w' => y = .returned (.int .i64 (k.accuse o e cy).1) ∧ RCourtP rb F (k.accuse o e cy).2 w w' := by
  have HC := Lib.hid (fun w' => RCourtP.of_below (w' := w') h)
  obtain ⟨i0, z0, hi, hz0, hz1, hz2, hz3⟩ := info_rcase
  obtain ⟨lv, hL, hF1, hF3, hlt⟩ := h
  have hB := RAccB.of (e := e) hL
  obtain ⟨eb, ec, en⟩ := e
  unfold evV
  simp only at hB
  generalize hw1 : w.alloc (.cells #[.int .i64 eb, .int .i64 ec, .int .i64 en] 28) = w1 at hB
  obtain ⟨hb1, e0, e1, e2, c0, l1, hfar⟩ := hB
  simp only at e0 e1 e2
  have HFIN := Lib.hid (fun i g cap w3 ob => hL.finish (i := i) (g := g) (cap := cap) (w1 := w1) (w3 := w3) (ob := ob) (x := (o, ⟨eb, ec, en⟩)) hF1 hF3 hlt hb1)
  have HB1 := Lib.hid hb1; clear hb1 hL hF1 hF3 hlt
  have HFAR := Lib.hid hfar; clear hfar
  by_cases hb : ownB o = false ∨ eb < 0 ∨ 3 ≤ eb ∨ en < 0 ∨ cy < 0 ∨ 1048576 < cy
  · have E := Lib.hid (show k.accuse o ⟨eb, ec, en⟩ cy = (2, k) from KS.acc_bad (by unfold KS.code; rw [if_pos hb]) (by decide))
    have hcs : ownB o = false ∨ (ownB o = true ∧ eb < 0) ∨ (ownB o = true ∧ 0 ≤ eb ∧ 3 ≤ eb) ∨ (ownB o = true ∧ 0 ≤ eb ∧ eb < 3 ∧ en < 0) ∨ (ownB o = true ∧ 0 ≤ eb ∧ eb < 3 ∧ 0 ≤ en ∧ cy < 0) ∨ (ownB o = true ∧ 0 ≤ eb ∧ eb < 3 ∧ 0 ≤ en ∧ 0 ≤ cy ∧ 1048576 < cy) := by
      cases ho : ownB o with
      | false => exact .inl rfl
      | true =>
        have : eb < 0 ∨ 3 ≤ eb ∨ en < 0 ∨ cy < 0 ∨ 1048576 < cy := hb.resolve_left (by rw [ho]; decide)
        simp only [true_and]
        omega
    clear hb
    rcases hcs with h1 | ⟨h1, h2⟩ | ⟨h1, h2, h3⟩ | ⟨h1, h2, h3, h4⟩ | ⟨h1, h2, h3, h4, h5⟩ | ⟨h1, h2, h3, h4, h5, h6⟩
    all_goals
      go_enter Tryd.func20, Tryd.ntmps20
      go_wp2_with fail
      refine (ref_IsOwner _ _).mono ?_
      rintro y w2 ⟨rfl, rfl⟩
      rw [h1]
      go_wp2_with fail
      go_ret
      exact ⟨by rw [E.out]; rfl, by rw [E.out]; exact HC.out _ HB1.out⟩
  · have ho : ownB o = true := by
      cases hx : ownB o with
      | true => rfl
      | false => exact absurd (.inl hx) hb
    have i1 : 0 ≤ eb ∧ eb < 3 ∧ 0 ≤ en ∧ 0 ≤ cy ∧ cy ≤ 1048576 := by omega
    obtain ⟨i1, i2, i3, i4, i5⟩ := i1
    have hcd := KS.code_of (k := k) (o := o) (e := ⟨eb, ec, en⟩) (cy := cy) ho ⟨i1, i2⟩ i3 ⟨i4, i5⟩
    simp only at hcd
    clear hb
    by_cases hold : cy < ec ∨ ec < cy - 2 ∨ ec < 0
    · rw [if_pos hold] at hcd
      have E := Lib.hid (KS.acc_bad hcd (by decide))
      have hcs : ec < 0 ∨ (0 ≤ ec ∧ cy < ec) ∨ (0 ≤ ec ∧ ec ≤ cy ∧ ec < cy - 2) := by omega
      clear hold hcd
      rcases hcs with h1 | ⟨h1, h2⟩ | ⟨h1, h2, h3⟩
      all_goals
        go_enter Tryd.func20, Tryd.ntmps20
        go_wp2_with fail
        refine (ref_IsOwner _ _).mono ?_
        rintro y w2 ⟨rfl, rfl⟩
        rw [ho]
        go_wp2_with fail
        go_ret
        exact ⟨by rw [E.out]; rfl, by rw [E.out]; exact HC.out _ HB1.out⟩
    · rw [if_neg hold] at hcd
      have j1 : ec ≤ cy ∧ cy - 2 ≤ ec ∧ 0 ≤ ec := by omega
      obtain ⟨j1, j2, j3⟩ := j1
      clear hold
      obtain ⟨la, lc, rfl⟩ := own_shape l1
      have HL := Lib.hid (RdR.of_row caseE_len (by decide) l1)
      have HLc := Lib.hid HL.out.lc
      have HCD := Lib.hid hcd; clear hcd l1
      have hGd := evGuard
      go_enter Tryd.func20, Tryd.ntmps20
      go_wp2_with fail
      refine (ref_IsOwner _ _).mono ?_
      rintro y w2 ⟨rfl, rfl⟩
      rw [ho]
      clear ho
      go_wp2_with fail
      go_loopg [10] k.L.length (fun g i wr => ∃ (j d : Nat), g + j = k.L.length ∧ i = .int .i64 j ∧ wr = w1.drewN d ∧ ∀ x ∈ k.L.take j, x.2 ≠ ⟨eb, ec, en⟩)
      case atStart => exact ⟨0, 0, rfl, rfl, rfl, by simp⟩
      case round =>
        obtain ⟨j, d, hgj, rfl, rfl, hno⟩ := hrel
        have HGJ := Lib.hid (And.intro hgj hno); clear hgj hno
        by_cases hjl : j < k.L.length
        · obtain ⟨x, hx⟩ : ∃ x, k.L[j]? = some x := ⟨_, List.getElem?_eq_getElem hjl⟩
          obtain ⟨b7, off7, rfl, hbl7, hcs7⟩ := HL.out.cells j x hx
          have t1 := hcs7 1 (by decide)
          have t2 := hcs7 2 (by decide)
          have t3 := hcs7 3 (by decide)
          simp only [caseE, List.getElem?_cons_zero, List.getElem?_cons_succ, Nat.add_zero] at t1 t2 t3
          have hq := fun w => ev_eql x.2 ⟨eb, ec, en⟩ w
          unfold evV at hq
          simp only at hq
          have HX := Lib.hid hx
          have hlc := HLc.out
          clear hcs7 hx
          by_cases hxe : x.2 = ⟨eb, ec, en⟩
          · rw [show decide (x.2 = (⟨eb, ec, en⟩ : EV)) = true by simp [hxe]] at hq
            have E := Lib.hid (show k.accuse o ⟨eb, ec, en⟩ cy = (5, k) from KS.acc_bad (by rw [HCD.out, KS.has_iff.2 ⟨x, List.mem_of_getElem? HX.out, hxe⟩]; rfl) (by decide))
            clear hxe
            generalize k.L.length = tl at *
            go_wp2_with fail
            go_quiet (fail)
            go_wp2_with fail
            go_ret
            exact ⟨by rw [E.out]; rfl, by rw [E.out]; exact HC.out _ ((HB1.out.drewN _).drewN _)⟩
          · rw [show decide (x.2 = (⟨eb, ec, en⟩ : EV)) = false by simp [hxe]] at hq
            have HXE := Lib.hid hxe
            clear hxe
            have htk := List.take_add_one (l := k.L) (i := j)
            rw [HX.out] at htk
            have HTK := Lib.hid htk; clear htk
            go_wp2_with fail
            go_quiet (fail)
            go_wp2_with fail
            have hgj := HGJ.out.1
            go_roundg (k.L.length - (j + 1))
            case measure => omega
            case rel => exact ⟨j + 1, d + nq, by omega, by go_num, rfl, fun y hy => by
              rw [HTK.out] at hy
              rcases List.mem_append.1 hy with hy | hy
              · exact HGJ.out.2 y hy
              · simp at hy; subst hy; exact HXE.out⟩
        · have hno := HGJ.out.2
          rw [List.take_of_length_le (by omega)] at hno
          have hh : k.has ⟨eb, ec, en⟩ = false := by
            cases hx : k.has ⟨eb, ec, en⟩ with
            | false => rfl
            | true => obtain ⟨x, h1, h2⟩ := KS.has_iff.1 hx; exact absurd h2 (hno x h1)
          have E := Lib.hid (show k.accuse o ⟨eb, ec, en⟩ cy = (0, ⟨k.L ++ [(o, ⟨eb, ec, en⟩)], k.done⟩) from KS.acc_ok (by rw [HCD.out, hh]; rfl))
          clear hno hh
          have hlc := HLc.out
          have hgj := HGJ.out.1
          have k7 := HFAR.out.1 (d + 1) (.cells #[.int .i64 o, .int .i64 eb, .int .i64 ec, .int .i64 en] 43)
          go_wp2_with fail
          go_region_law ((refine step_append_lies _ rfl (.tmp 77) (.tmp 81) 39 rfl 0 43 i0 z0 4 32 Tryd.underlying39 hi hz0 hz1 hz2 hz3 (by decide) (.slice la k.L.length lc) k.L.length (casesE k.L) rfl (HFAR.out.2.1 (d + 1) _) ⟨_, 0, none⟩ 1 1 (caseE (o, ⟨eb, ec, en⟩)) rfl rfl (World.news_of_block (heap_alloc_new _ _)) (by intro u hu; simp [caseE] at hu; rcases hu with rfl | rfl | rfl | rfl <;> rfl) (by decide) (by unfold maxLen; omega) (by omega) (Nat.zero_le _) _ rfl ?_; intro g cap w3 ho3 hg3 hor hlt3; obtain ⟨m1, m2⟩ := HFAR.out.2.2 (d + 1) _ _ hg3))
          all_goals
            have hend := HFIN.out (d + 1) g cap w3 _ hg3 ho3 (by simpa using hor) hlt3
            have HEND := Lib.hid hend
            clear hend ho3 hg3 hor hlt3
            go_wp2_with fail
            go_ret
            exact ⟨by rw [E.out]; rfl, by rw [E.out]; exact HEND.out⟩
end Go.Proofs.YtajnfkmkombajabDoor
