/-
  The document's stakes in memory: Leave.
  The document's court in memory: Due.
  Contracts of the document's purse: Burn, In, Move.
  Contract of the document's purse: Move.
  Plain: all pictures by cycles against the three that a chain keeps. No program in sight.
-/
import Derived.Test.YtajnfkmkombajaaGreatDoorQSP27
import Derived.Deep.AppendLies
import Derived.Test.YtajnfkmkombajaaGreatDoorQSP25
import Derived.Test.YtajnfkmkombajaaGreatDoorQSP23
import Derived.Deep.RegionWith
import Derived.BigQuiet
import Derived.Test.YtajnfkmkombajaaGreatDoorQSP14
set_option linter.unusedVariables false
set_option linter.unusedSimpArgs false
set_option linter.unusedVariables false
namespace Go.Proofs.YtajnfkmkombajaaGreatDoor
open Go.RowKit Go.Maps
theorem infoRWait : (Tryz.prog.info? 91).map (fun i => (i.zero.map (fun z => z.cells.size), i.size, i.bytes)) = some (some 3, 3, 24) := by kernel_rfl
theorem info_rwait : ∃ i z, Tryz.prog.info? 91 = some i ∧ i.zero = some z ∧ i.size = 3 ∧ i.bytes = 24 ∧ z.cells.size = 3 := by
 have h := infoRWait
 cases hi : Tryz.prog.info? 91 with
 | none => rw [hi] at h; cases h
 | some i =>
   rw [hi] at h
   simp only [Option.map_some, Option.some.injEq, Prod.mk.injEq] at h
   obtain ⟨h1, h2, h3⟩ := h
   cases hz : i.zero with
   | none => rw [hz] at h1; cases h1
   | some z => rw [hz] at h1; simp at h1; exact ⟨i, z, rfl, hz, h2, h3, h1⟩
theorem rleave_no {s : SS} {o k n c : Int} (h : s.is k = false) : s.leaveOp o k n c = (4, s) := by
 unfold SS.is at h; unfold SS.leaveOp
 rw [Option.isSome_eq_false_iff, Option.isNone_iff_eq_none] at h; rw [h]
theorem rleave_cy {s : SS} {o k n c : Int} {q : QS} (h : s.pool k = some q) (hc : cycleC c ≠ 0) : s.leaveOp o k n c = (2, s) := by
 unfold SS.leaveOp; rw [h]; simp only; rw [if_pos hc]
theorem rleave_take {s : SS} {o k n c : Int} {q : QS} (h : s.pool k = some q) (hc : cycleC c = 0) (ht : (q.takeOp o n).1 ≠ 0) : s.leaveOp o k n c = ((q.takeOp o n).1, s) := by
 unfold SS.leaveOp; rw [h]; simp only; rw [if_neg (by simp [hc]), if_pos ht]
theorem rleave_join {s : SS} {o k n c : Int} {q v : QS} (h : s.pool k = some q) (hc : cycleC c = 0) (ht : (q.takeOp o n).1 = 0) (hf : (s.find k c).getD QS.new = v) (hj : (v.joinOp o n).1 ≠ 0) : s.leaveOp o k n c = ((v.joinOp o n).1, s) := by
 unfold SS.leaveOp; rw [h]; simp only; rw [if_neg (by simp [hc]), if_neg (by simp [ht]), hf, if_pos hj]
theorem rleave_ok {s : SS} {o k n c : Int} {q v : QS} (h : s.pool k = some q) (hc : cycleC c = 0) (ht : (q.takeOp o n).1 = 0) (hf : (s.find k c).getD QS.new = v) (hj : (v.joinOp o n).1 = 0) : s.leaveOp o k n c = (0, (s.setP k (q.takeOp o n).2).setW k c (v.joinOp o n).2) := by
 unfold SS.leaveOp; rw [h]; simp only; rw [if_neg (by simp [hc]), if_neg (by simp [ht]), hf, if_neg (by simp [hj])]
set_option maxRecDepth 8000 in
set_option maxHeartbeats 4000000 in
theorem refs_Leave (sb : Nat) (F : Nat → Prop) (s : SS) (w : World) (o k n c : Int) (h : RStAt sb F s w) (hW : s.W.length ≤ 8000) :
   Calls Tryz.prog 22 #[.pointer (some ⟨sb, 0, none⟩), .int .i64 o, .int .i64 k, .int .i64 n, .int .i64 c] w fun e w' => e = .returned (.int .i64 (s.leaveOp o k n c).1) ∧ RStP sb F (s.leaveOp o k n c).2 w w' := by
 have HA := Lib.hid (fun w' => RStP.of_below (w' := w') h)
 obtain ⟨i0, z0, hi0, hz0, hz1, hz2, hz3⟩ := info_rwait
 obtain ⟨L, wv, hL, hF, hlt⟩ := h
 have HI := Lib.hid (refs_Is sb L wv s k w hL)
 by_cases hi : s.is k = true
 · obtain ⟨j, q, rfl, hj, hq, hr, hp⟩ := hL.yes hi
   rw [hi] at HI
   by_cases hcy : 0 ≤ c ∧ c ≤ 1048576
   · have hcz : cycleC c = 0 := cycleC_zero.2 hcy
     have hok := SS.leaveOp_ok hL.ok o (j : Int) n c
     have HCP := Lib.hid (refq_Copy (L.pb j) (L.ps j) (L.pc j) q w (hL.poo j q hr).1)
     have t0 := hL.top.cell 0
     simp only [List.getElem?_cons_zero] at t0
     obtain ⟨cc0, cc1⟩ := hcy
     have HFD := Lib.hid (fun wx (hb : Below w.heap.size w wx) => refs_find sb L wv s (j : Int) c wx (hL.below hb))
     by_cases ht : (q.takeOp o n).1 = 0
     · have HT0 := Lib.hid ht
       rcases s.idx_find (j : Int) c with ⟨i1, i2⟩ | ⟨i, x, i1, i2, i3, i4, i5⟩
       · have hv : (s.find (j : Int) c).getD QS.new = QS.new := by rw [i2]; rfl
         rw [i1] at HFD
         unfold idxV at HFD
         simp only at HFD
         by_cases hjn : (QS.new.joinOp o n).1 = 0
         · have E := Lib.hid (rleave_ok hq hcz ht hv hjn)
           rw [E.out] at hok
           obtain ⟨ao, cap, rfl, R⟩ := hL.rd
           have HADD := Lib.hid (fun (w5 w7 : World) (g b2 c2 m2 b4 c4 m4 : Nat) (wv' : Value) (ob : Obj) hw hp n2 hv n4 nd hg hgo hor hgl ho => hL.leaveAdd hF hlt (w5 := w5) (w7 := w7) (g := g) (b2 := b2) (c2 := c2) (m2 := m2) (b4 := b4) (c4 := c4) (m4 := m4) (c := c) (q1 := (q.takeOp o n).2) (v1 := (QS.new.joinOp o n).2) (wv' := wv') (ob := ob) hj hw hp n2 hv n4 nd i2 hok hg hgo hor hgl ho)
           have HTT := Lib.hid (fun wx (hb : Below w.heap.size w wx) => And.intro ((hL.below hb).top.cell 0) (And.intro ((hL.below hb).ptr hj) ((hL.below hb).row.frozen j)))
           have hne : L.g ≠ sb := fun e => by have := hL.rrow; rw [e, hL.rtop] at this; cases this
           have HAFT := Lib.hid (fun (w5 : World) (hb : Below w.heap.size w w5) (u : Value) => show (w5.setCell ⟨L.g, j, none⟩ u).cell? ⟨sb, 1, none⟩ = some (.slice ao s.W.length cap) ∧ ∀ ob, ((w5.setCell ⟨L.g, j, none⟩ u).alloc ob).ownsRow 0 91 3 (.slice ao s.W.length cap) s.W.length (waitsE L s.W) ∧ ∀ w7, ((w5.setCell ⟨L.g, j, none⟩ u).alloc ob).grownBy w7 (Value.slice ao s.W.length cap).ownBlock → w7.cell? ⟨sb, 1, none⟩ = some (.slice ao s.W.length cap) ∧ w7.frozen? ⟨sb, 1, none⟩ = false by
             have h5 := hL.below hb
             have top6 := h5.top.set_other (p := ⟨L.g, j, none⟩) (by simpa using hne) u
             have wr : ∀ g, (Value.slice ao s.W.length cap).ownBlock = some g → L.role g = .wrow := hL.rwai
             have o6 : (w5.setCell ⟨L.g, j, none⟩ u).ownsRow 0 91 3 (.slice ao s.W.length cap) s.W.length (waitsE L s.W) := ownsRow_other h5.wai (fun g hg => Below.heap_setCell _ _ _ _ (fun e => by have := wr g hg; rw [e, hL.rrow] at this; cases this))
             refine ⟨top6.cell 1, fun ob => ⟨ownsRow_other o6 (fun g hg => Below.heap_alloc _ _ _ (o6.lt g hg).2), fun w7 hg7 => ?_⟩⟩
             have top7 := top6.keep (((Keep.refl (fun y => (Value.slice ao s.W.length cap).ownBlock = some y) _).alloc ob).grown hg7 (fun y hy => .inl hy)) (fun e => by have := wr sb e; rw [hL.rtop] at this; cases this)
             exact ⟨top7.cell 1, top7.frozen 1⟩)
           have HJ0 := Lib.hid hjn
           have ltop := hL.top.lt
           have lrow := hL.row.lt
           clear hL hF hlt hi hq hr ht i1 i2 hv hjn hok R hcz hne
           go_enter Tryz.func22, Tryz.ntmps22
           go_wp2_with fail
           refine HI.out.mono ?_
           rintro e w1 ⟨rfl, rfl⟩
           go_wp2_with fail
           refine HCP.out.mono ?_
           rintro e w1 ⟨sb2, cap2, rfl, hb1, hn2, hp2⟩
           have HP2 := Lib.hid hp2; have HB1 := Lib.hid hb1; clear hp2 hb1
           go_wp2_with fail
           refine (refq_Take w.heap.size sb2 cap2 q o n _ HP2.out).mono ?_
           rintro e w2 ⟨rfl, hP⟩
           rw [HT0.out]
           have HB2 := Lib.hid (show Below w.heap.size w w2 from Keep.after HB1.out hP.1 (fun i hi => by rcases hi with rfl | rfl <;> omega))
           have HP3 := Lib.hid hP.2; clear hP
           go_wp2_with fail
           refine (HFD.out _ HB2.out).mono ?_
           rintro e w3 ⟨rfl, rfl⟩
           go_wp2_with fail
           refine (refq_New _).mono ?_
           rintro e w3 ⟨b4, sb4, rfl, hb3, n4, n5, hp4⟩
           have HB3 := Lib.hid hb3; have HP4 := Lib.hid hp4; clear hb3 hp4
           go_wp2_with fail
           refine (refq_Join b4 sb4 6 QS.new o n _ HP4.out).mono ?_
           rintro e w5 ⟨rfl, hP⟩
           rw [HJ0.out]
           have HB5 := Lib.hid (show Below w2.heap.size w2 w5 from Keep.after HB3.out hP.1 (fun i hi => by rcases hi with rfl | rfl <;> omega))
           have HB6 := Lib.hid (btrans HB2.out HB5.out)
           have HP5 := Lib.hid hP.2; clear hP
           have l2 := HP3.out.lt
           have l5 := HP5.out.lt
           have HP6 := Lib.hid (HP3.out.keep (F := fun _ => False) (Keep.of_below HB5.out) id id)
           have hs1 := HB2.out.size
           obtain ⟨d0, d1, d2⟩ := HTT.out _ HB6.out
           simp only [List.getElem?_cons_zero] at d0
           obtain ⟨d3, d4⟩ := HAFT.out w5 HB6.out (.pointer (some ⟨w.heap.size, 0, none⟩))
           have HD4 := Lib.hid d4; clear d4
           have HN5 := Lib.hid (fun (u : Value) (ob : Obj) => show ((w5.setCell ⟨L.g, j, none⟩ u).alloc ob).heap[w5.heap.size]? = some ob by have := heap_alloc_new (w5.setCell ⟨L.g, j, none⟩ u) ob; simpa using this)
           go_wp2_with (at_builtin; go_loud (refine wpList_append_lies _ rfl (.tmp 88) (.tmp 93) 83 rfl 0 91 i0 z0 3 24 Tryz.underlying83 hi0 hz0 hz1 hz2 hz3 (by decide) (.slice ao s.W.length cap) s.W.length (waitsE L s.W) rfl (HD4.out _).1 ⟨_, 0, none⟩ 1 1 [.int .i64 j, .int .i64 c, .pointer (some ⟨b4, 0, none⟩)] rfl rfl (World.news_of_block (HN5.out _ _)) (by intro u hu; simp at hu; rcases hu with rfl | rfl | rfl <;> rfl) (by decide) (by unfold maxLen; omega) (by omega) (Nat.zero_le _) _ rfl ?_))
           intro g cp w7 ho7 hg7 hor hgl
           obtain ⟨f0, f1⟩ := (HD4.out _).2 w7 hg7
           have hend := HADD.out w5 w7 g w.heap.size sb2 cap2 b4 sb4 6 _ _ HB6.out HP6.out ⟨Nat.le_refl _, hn2⟩ HP5.out ⟨by omega, by omega⟩ (by omega) hg7 rfl (by simpa using hor) hgl ho7
           have HEND := Lib.hid hend
           clear hend ho7 hg7 hor hgl
           go_wp2_with fail
           go_ret
           exact ⟨by rw [E.out]; rfl, by rw [E.out]; exact HEND.out⟩
         · have E := Lib.hid (rleave_join hq hcz ht hv hjn)
           have HJ0 := Lib.hid (show (QS.new.joinOp o n).1 = (QS.new.joinOp o n).1 from rfl)
           have hpos : decide (0 < ((QS.new.joinOp o n).1 : Int)) = true := by simp; omega
           have hpos2 : decide (0 < (QS.new.joinOp o n).1) = true := by simp; omega
           clear hL hF hlt hi hq hr ht i1 i2 hv hjn hok hcz
           generalize hjc : (QS.new.joinOp o n).1 = jc at *
           have HJ1 := Lib.hid hjc; clear hjc HJ0
           go_enter Tryz.func22, Tryz.ntmps22
           go_wp2_with fail
           refine HI.out.mono ?_
           rintro e w1 ⟨rfl, rfl⟩
           go_wp2_with fail
           refine HCP.out.mono ?_
           rintro e w1 ⟨sb2, cap2, rfl, hb1, hn2, hp2⟩
           have HP2 := Lib.hid hp2; have HB1 := Lib.hid hb1; clear hp2 hb1
           go_wp2_with fail
           refine (refq_Take w.heap.size sb2 cap2 q o n _ HP2.out).mono ?_
           rintro e w2 ⟨rfl, hP⟩
           rw [HT0.out]
           have HB2 := Lib.hid (show Below w.heap.size w w2 from Keep.after HB1.out hP.1 (fun i hi => by rcases hi with rfl | rfl <;> omega))
           have HP3 := Lib.hid hP.2; clear hP
           go_wp2_with fail
           refine (HFD.out _ HB2.out).mono ?_
           rintro e w3 ⟨rfl, rfl⟩
           go_wp2_with fail
           refine (refq_New _).mono ?_
           rintro e w3 ⟨b4, sb4, rfl, hb3, n4, n5, hp4⟩
           have HB3 := Lib.hid hb3; have HP4 := Lib.hid hp4; clear hb3 hp4
           go_wp2_with fail
           refine (refq_Join b4 sb4 6 QS.new o n _ HP4.out).mono ?_
           rintro e w5 ⟨rfl, hP⟩
           rw [HJ1.out]
           have HB5 := Lib.hid (show Below w2.heap.size w2 w5 from Keep.after HB3.out hP.1 (fun i hi => by rcases hi with rfl | rfl <;> omega))
           have HB6 := Lib.hid (btrans HB2.out HB5.out)
           have HP5 := Lib.hid hP.2; clear hP
           go_wp2_with fail
           go_ret
           exact ⟨by rw [E.out]; rfl, by rw [E.out]; exact HA.out _ HB6.out⟩
       · have hv : (s.find (j : Int) c).getD QS.new = x.q := by rw [i3]; rfl
         have hil : i < s.W.length := (List.getElem?_eq_some_iff.1 i2).1
         rw [i1] at HFD
         unfold idxV at HFD
         simp only at HFD
         obtain ⟨g, cap, hwv, -, hgl⟩ := hL.wai.form (by omega)
         subst hwv
         have hget := fun j' (hj' : j' < 3) => flatMap_get (enc := waitE L) (C := 3) (fun _ => rfl) s.W.zipIdx i (x, i) (zip_get i2) j' hj'
         have HCW := Lib.hid (fun wx (hb : Below w.heap.size w wx) => show wx.cell? ⟨g, i * 3 + 2, none⟩ = some (.pointer (some ⟨L.pb (i + 3), 0, none⟩)) by
           have := (hL.below hb).wai.cells (g := g) rfl (i * 3 + 2) _ (hget 2 (by decide))
           rw [Addr.add_lit, Nat.zero_add] at this; exact this)
         have HTT := Lib.hid (fun wx (hb : Below w.heap.size w wx) => show wx.cell? ⟨sb, 1, none⟩ = some (.slice (some ⟨g, 0, none⟩) s.W.length cap) from (hL.below hb).top.cell 1)
         have HCQ := Lib.hid (fun wx (hb : Below w.heap.size w wx) => refq_Copy (L.pb (i + 3)) (L.ps (i + 3)) (L.pc (i + 3)) x.q wx ((hL.below hb).poo (i + 3) x.q (by rw [SS.rget_wait, i2]; rfl)).1)
         have hdi : decide ((i : Int) < (s.W.length : Int)) = true := by simp; omega
         have hmx : s.W.length ≤ 9223372036854775807 := by omega
         by_cases hjn : (x.q.joinOp o n).1 = 0
         · have E := Lib.hid (rleave_ok hq hcz ht hv hjn)
           rw [E.out] at hok
           have hin := (fun (w5 : World) (b2 c2 m2 b4 c4 m4 : Nat) hw hp n2 hv n4 nd => hL.leaveIn hF hlt (w5 := w5) (g := g) (b2 := b2) (c2 := c2) (m2 := m2) (b4 := b4) (c4 := c4) (m4 := m4) (c := c) (x := x) (i := i) (q1 := (q.takeOp o n).2) (v1 := (x.q.joinOp o n).2) hj hw hp n2 hv n4 nd i2 i3 i4 i5 rfl hok)
           simp only [i4, i5] at hin
           have HIN := Lib.hid hin; clear hin
           have HT2 := Lib.hid (fun wx (hb : Below w.heap.size w wx) => And.intro ((hL.below hb).top.cell 0) (And.intro ((hL.below hb).ptr hj) ((hL.below hb).row.frozen j)))
           have hne : L.g ≠ sb := fun e => by have := hL.rrow; rw [e, hL.rtop] at this; cases this
           have hne2 : L.g ≠ g := fun e => by have := hL.rwai g rfl; rw [← e, hL.rrow] at this; cases this
           have HAFT := Lib.hid (fun (w5 : World) (hb : Below w.heap.size w w5) (u : Value) => show (w5.setCell ⟨L.g, j, none⟩ u).cell? ⟨sb, 1, none⟩ = some (.slice (some ⟨g, 0, none⟩) s.W.length cap) ∧ (∀ k, k < 3 → (w5.setCell ⟨L.g, j, none⟩ u).cell? ⟨g, i * 3 + k, none⟩ = (waitE L (x, i))[k]?) ∧ ∀ k, (w5.setCell ⟨L.g, j, none⟩ u).frozen? ⟨g, k, none⟩ = false by
             have h5 := hL.below hb
             have top6 := h5.top.set_other (p := ⟨L.g, j, none⟩) (by simpa using hne) u
             have o6 : (w5.setCell ⟨L.g, j, none⟩ u).ownsRow 0 91 3 (.slice (some ⟨g, 0, none⟩) s.W.length cap) s.W.length (waitsE L s.W) := ownsRow_other h5.wai (fun g' hg => Below.heap_setCell _ _ _ _ (fun e => hne2 (by have h2 : g = g' := (by simpa [Value.ownBlock] using hg); exact (h2.trans e).symm)))
             refine ⟨top6.cell 1, fun k hk => ?_, fun k => ?_⟩
             · have hg := hget k hk
               have hk' : k < (waitE L (x, i)).length := hk
               rw [List.getElem?_eq_getElem hk'] at hg ⊢
               have := o6.cells (g := g) rfl (i * 3 + k) _ hg
               rw [Addr.add_lit, Nat.zero_add] at this; exact this
             · rcases o6.2 with ⟨hv, hn⟩ | ⟨g', cap', cur, hv, hb, hg, _⟩
               · cases hv
               · cases hv
                 simp [World.frozen?, hg])
           have HJ0 := Lib.hid hjn
           have ltop := hL.top.lt
           have lrow := hL.row.lt
           clear hL hF hlt hi hq hr ht i1 i2 i3 i4 i5 hv hjn hok hcz hne hne2 hget
           go_enter Tryz.func22, Tryz.ntmps22
           go_wp2_with fail
           refine HI.out.mono ?_
           rintro e w1 ⟨rfl, rfl⟩
           go_wp2_with fail
           refine HCP.out.mono ?_
           rintro e w1 ⟨sb2, cap2, rfl, hb1, hn2, hp2⟩
           have HP2 := Lib.hid hp2; have HB1 := Lib.hid hb1; clear hp2 hb1
           go_wp2_with fail
           refine (refq_Take w.heap.size sb2 cap2 q o n _ HP2.out).mono ?_
           rintro e w2 ⟨rfl, hP⟩
           rw [HT0.out]
           have HB2 := Lib.hid (show Below w.heap.size w w2 from Keep.after HB1.out hP.1 (fun i hi => by rcases hi with rfl | rfl <;> omega))
           have HP3 := Lib.hid hP.2; clear hP
           go_wp2_with fail
           refine (HFD.out _ HB2.out).mono ?_
           rintro e w3 ⟨rfl, rfl⟩
           go_wp2_with fail
           refine (refq_New _).mono ?_
           rintro e w3 ⟨b4, sb4, rfl, hb3, n4, n5, hp4⟩
           have HB3 := Lib.hid hb3; have HP4 := Lib.hid hp4; clear hb3 hp4
           have d1 := HTT.out _ (btrans HB2.out HB3.out)
           have dc := HCW.out _ (btrans HB2.out HB3.out)
           go_wp2_with fail
           refine (HCQ.out _ (btrans HB2.out HB3.out)).mono ?_
           rintro e w4 ⟨sb6, cap6, rfl, hb4, n6, hp6⟩
           have HB4 := Lib.hid hb4; have HP6 := Lib.hid hp6; clear hb4 hp6 d1 dc
           have hz3 := HB3.out.size
           go_wp2_with fail
           refine (refq_Join w3.heap.size sb6 cap6 x.q o n _ HP6.out).mono ?_
           rintro e w5 ⟨rfl, hP⟩
           rw [HJ0.out]
           have HB5 := Lib.hid (show Below w2.heap.size w2 w5 from Keep.after (btrans HB3.out HB4.out) hP.1 (fun i hi => by rcases hi with rfl | rfl <;> omega))
           have HB6 := Lib.hid (btrans HB2.out HB5.out)
           have HP5 := Lib.hid hP.2; clear hP
           have l2 := HP3.out.lt
           have l5 := HP5.out.lt
           have hs1 := HB2.out.size
           have hz4 := HB4.out.size
           have HP7 := Lib.hid (HP3.out.keep (F := fun _ => False) (Keep.of_below HB5.out) id id)
           obtain ⟨d0, d1, d2⟩ := HT2.out _ HB6.out
           simp only [List.getElem?_cons_zero] at d0
           obtain ⟨d3, d4, d5⟩ := HAFT.out w5 HB6.out (.pointer (some ⟨w.heap.size, 0, none⟩))
           have f0 := d4 0 (by decide); have f1 := d4 1 (by decide); have f2 := d4 2 (by decide)
           have g0 := d5 (i * 3); have g1 := d5 (i * 3 + 1); have g2 := d5 (i * 3 + 2)
           simp only [waitE, List.getElem?_cons_zero, List.getElem?_cons_succ, Nat.add_zero] at f0 f1 f2
           have hend := HIN.out w5 w.heap.size sb2 cap2 w3.heap.size sb6 cap6 HB6.out HP7.out ⟨Nat.le_refl _, hn2⟩ HP5.out ⟨by omega, by omega⟩ (by omega)
           have HEND := Lib.hid hend
           clear hend d4 d5
           go_wp2_with fail
           go_ret
           exact ⟨by rw [E.out]; rfl, by rw [E.out]; exact HEND.out⟩
         · have E := Lib.hid (rleave_join hq hcz ht hv hjn)
           have hpos : decide (0 < ((x.q.joinOp o n).1 : Int)) = true := by simp; omega
           have hpos2 : decide (0 < (x.q.joinOp o n).1) = true := by simp; omega
           clear hL hF hlt hi hq hr ht i1 i2 i3 i4 i5 hv hjn hok hcz hget
           generalize hjc : (x.q.joinOp o n).1 = jc at *
           have HJ1 := Lib.hid hjc; clear hjc
           go_enter Tryz.func22, Tryz.ntmps22
           go_wp2_with fail
           refine HI.out.mono ?_
           rintro e w1 ⟨rfl, rfl⟩
           go_wp2_with fail
           refine HCP.out.mono ?_
           rintro e w1 ⟨sb2, cap2, rfl, hb1, hn2, hp2⟩
           have HP2 := Lib.hid hp2; have HB1 := Lib.hid hb1; clear hp2 hb1
           go_wp2_with fail
           refine (refq_Take w.heap.size sb2 cap2 q o n _ HP2.out).mono ?_
           rintro e w2 ⟨rfl, hP⟩
           rw [HT0.out]
           have HB2 := Lib.hid (show Below w.heap.size w w2 from Keep.after HB1.out hP.1 (fun i hi => by rcases hi with rfl | rfl <;> omega))
           have HP3 := Lib.hid hP.2; clear hP
           go_wp2_with fail
           refine (HFD.out _ HB2.out).mono ?_
           rintro e w3 ⟨rfl, rfl⟩
           go_wp2_with fail
           refine (refq_New _).mono ?_
           rintro e w3 ⟨b4, sb4, rfl, hb3, n4, n5, hp4⟩
           have HB3 := Lib.hid hb3; have HP4 := Lib.hid hp4; clear hb3 hp4
           have d1 := HTT.out _ (btrans HB2.out HB3.out)
           have dc := HCW.out _ (btrans HB2.out HB3.out)
           go_wp2_with fail
           refine (HCQ.out _ (btrans HB2.out HB3.out)).mono ?_
           rintro e w4 ⟨sb6, cap6, rfl, hb4, n6, hp6⟩
           have HB4 := Lib.hid hb4; have HP6 := Lib.hid hp6; clear hb4 hp6 d1 dc
           have hz3 := HB3.out.size
           go_wp2_with fail
           refine (refq_Join w3.heap.size sb6 cap6 x.q o n _ HP6.out).mono ?_
           rintro e w5 ⟨rfl, hP⟩
           rw [HJ1.out]
           have HB5 := Lib.hid (show Below w2.heap.size w2 w5 from Keep.after (btrans HB3.out HB4.out) hP.1 (fun i hi => by rcases hi with rfl | rfl <;> omega))
           have HB6 := Lib.hid (btrans HB2.out HB5.out)
           have HP5 := Lib.hid hP.2; clear hP
           go_wp2_with fail
           go_ret
           exact ⟨by rw [E.out]; rfl, by rw [E.out]; exact HA.out _ HB6.out⟩
     · have E := Lib.hid (rleave_take hq hcz ht)
       have hpos : decide (0 < ((q.takeOp o n).1 : Int)) = true := by simp; omega
       have hpos2 : decide (0 < (q.takeOp o n).1) = true := by simp; omega
       clear hL hF hlt hi hq hr ht hok hcz HFD
       generalize hjc : (q.takeOp o n).1 = jc at *
       have HT0 := Lib.hid hjc; clear hjc
       go_enter Tryz.func22, Tryz.ntmps22
       go_wp2_with fail
       refine HI.out.mono ?_
       rintro e w1 ⟨rfl, rfl⟩
       go_wp2_with fail
       refine HCP.out.mono ?_
       rintro e w1 ⟨sb2, cap2, rfl, hb1, hn2, hp2⟩
       have HP2 := Lib.hid hp2; have HB1 := Lib.hid hb1; clear hp2 hb1
       go_wp2_with fail
       refine (refq_Take w.heap.size sb2 cap2 q o n _ HP2.out).mono ?_
       rintro e w2 ⟨rfl, hP⟩
       rw [HT0.out]
       have HB2 := Lib.hid (show Below w.heap.size w w2 from Keep.after HB1.out hP.1 (fun i hi => by rcases hi with rfl | rfl <;> omega))
       have HP3 := Lib.hid hP.2; clear hP
       go_wp2_with fail
       go_ret
       exact ⟨by rw [E.out]; rfl, by rw [E.out]; exact HA.out _ HB2.out⟩
   · have E := Lib.hid (rleave_cy (o := o) (n := n) hq (fun h => hcy (cycleC_zero.1 h)))
     have hcases : c < 0 ∨ (0 ≤ c ∧ 1048576 < c) := by omega
     clear hL hF hlt hi hq hr hcy
     rcases hcases with h1 | ⟨h1, h2⟩
     all_goals
       go_enter Tryz.func22, Tryz.ntmps22
       go_wp2_with fail
       refine HI.out.mono ?_
       rintro e w1 ⟨rfl, rfl⟩
       go_wp2_with fail
       go_ret
       exact ⟨by rw [E.out]; rfl, by rw [E.out]; exact HA.out _ (Below.refl _ _)⟩
 · have hi' : s.is k = false := by simpa using hi
   have E := Lib.hid (rleave_no (o := o) (n := n) (c := c) hi')
   rw [hi'] at HI
   clear hL hF hlt hi hi'
   go_enter Tryz.func22, Tryz.ntmps22
   go_wp2_with fail
   refine HI.out.mono ?_
   rintro e w1 ⟨rfl, rfl⟩
   go_wp2_with fail
   go_ret
   exact ⟨by rw [E.out]; rfl, by rw [E.out]; exact HA.out _ (Below.refl _ _)⟩
end Go.Proofs.YtajnfkmkombajaaGreatDoor
namespace Go.Proofs.YtajnfkmkombajaaGreatDoor
open Go.RowKit Go.Maps
theorem casesE_one (l : List (Int × EV)) : ∀ u ∈ casesE l, u.oneCell' = true := by
 intro u hu
 unfold casesE at hu
 obtain ⟨x, _, hx⟩ := List.mem_flatMap.1 hu
 simp [caseE] at hx
 rcases hx with rfl | rfl | rfl | rfl <;> rfl
theorem casesE_drop : ∀ (l : List (Int × EV)) (n : Nat), (casesE l).drop (n * 4) = casesE (l.drop n)
 | [], n => by simp [casesE]
 | x :: l, 0 => by simp
 | x :: l, n + 1 => by
   have : casesE (x :: l) = caseE x ++ casesE l := rfl
   rw [this, List.drop_succ_cons, ← casesE_drop l n, show (n + 1) * 4 = (caseE x).length + n * 4 by rw [caseE_len]; omega, List.drop_length_add_append]
set_option maxRecDepth 8000 in
set_option maxHeartbeats 2000000 in
theorem ref_CourtDue (rb : Nat) (F : Nat → Prop) (k : KS) (w : World) (h : RCourtAt rb F k w) (hk : k.L.length ≤ 1000000) :
   Calls Tryz.prog 133 #[.pointer (some ⟨rb, 0, none⟩)] w fun y w' => ∃ v', y = .returned v' ∧ w'.ownsRow w.heap.size 93 4 v' k.due.length (casesE k.due) ∧ Keep F w w' ∧ RCourtAt rb F k.asked w' := by
 obtain ⟨i0, z0, hi, hz0, hz1, hz2, hz3⟩ := info_rcase
 obtain ⟨lv, hL, hF1, hF3, hlt⟩ := h
 have hdue : k.due.length = k.L.length - k.done := by unfold KS.due; rw [List.length_drop]
 have hdn := hL.done
 have c0 : w.cell? ⟨rb, 0, none⟩ = some lv := hL.row.cell 0
 have c1 : w.cell? ⟨rb, 1, none⟩ = some (.int .i64 k.done) := hL.row.cell 1
 have HFAR := Lib.hid (show ∀ wx, (∃ i, (w.drewN i).grownBy wx none) → wx.cell? ⟨rb, 0, none⟩ = some lv ∧ wx.cell? ⟨rb, 1, none⟩ = some (.int .i64 k.done) ∧ wx.frozen? ⟨rb, 1, none⟩ = false from fun wx ⟨i, hg⟩ => by
   have hr : RowAt rb 47 [lv, .int .i64 k.done] wx := hL.row.keep (((Keep.refl (fun _ => False) w).drewN i).grown hg (fun k hk => by cases hk)) id
   exact ⟨hr.cell 0, hr.cell 1, hr.frozen 1⟩)
 have HEND := Lib.hid (show ∀ wx v', (∃ i, (w.drewN i).grownBy wx none) → wx.ownsRow w.heap.size 93 4 v' k.due.length (casesE k.due) → ∀ j,
     ((wx.drewN j).setCell ⟨rb, 1, none⟩ (.int .i64 k.L.length)).ownsRow w.heap.size 93 4 v' k.due.length (casesE k.due) ∧ Keep F w ((wx.drewN j).setCell ⟨rb, 1, none⟩ (.int .i64 k.L.length)) ∧ RCourtAt rb F k.asked ((wx.drewN j).setCell ⟨rb, 1, none⟩ (.int .i64 k.L.length)) from fun wx v' ⟨i, hg⟩ ho j => by
   have K0 : ∀ G, Keep G w wx := fun G => ((Keep.refl G w).drewN i).grown hg (fun k hk => by cases hk)
   have hrb := hlt _ hF1
   have hr : RowAt rb 47 [lv, .int .i64 k.done] wx := hL.row.keep (K0 (fun _ => False)) id
   have hs := (hr.drewN j).set 1 (.int .i64 k.L.length)
   have KE := ((K0 F).drewN j).setCell (p := ⟨rb, 1, none⟩) (.inl hF1) (.int .i64 k.L.length)
   refine ⟨ownsRow_other ho (fun g hg => Below.heap_setCell (wx.drewN j) _ _ _ (show g ≠ rb from fun e => ?_)), KE, lv, ⟨hs, ?_, hL.nl, Nat.le_refl _⟩, hF1, hF3, fun b hb => Nat.lt_of_lt_of_le (hlt b hb) KE.size⟩
   · have := (ho.lt g hg).1; omega
   · refine ownsRow_other hL.l (fun g hg => ?_)
     rw [Below.heap_setCell (wx.drewN j) _ _ _ (show g ≠ rb from fun e => hL.nl (by rw [hg, e]))]
     exact (K0 (fun _ => False)).block g (hL.l.lt g hg).2 id)
 have hone := casesE_one k.due
 rcases hL.l.2 with ⟨rfl, hn⟩ | ⟨g, cap, cur, rfl, _, hg, hnc, hcm, hcs, htk⟩
 · have hd0 : k.done = 0 := by omega
   have hd1 : k.due.length = 0 := by omega
   have hd2 : k.due = [] := List.eq_nil_of_length_eq_zero hd1
   have HD := Lib.hid (And.intro hd1 hd2)
   have HN := Lib.hid hn
   rw [hd0] at c1
   clear hL hF1 hF3 hlt hdue hdn hn hone hd0 hd1 hd2
   go_enter Tryz.func133, Tryz.ntmps133
   go_wp2_with fail
   go_region
   obtain ⟨m0, m1, m2⟩ := HFAR.out w.drew ⟨1, rfl, rfl, rfl, Nat.le_refl _, fun _ _ _ => rfl⟩
   have hend := HEND.out w.drew (.slice none 0 0) ⟨1, rfl, rfl, rfl, Nat.le_refl _, fun _ _ _ => rfl⟩ (by rw [HD.out.1, HD.out.2]; exact World.ownsRow_nil _ _ _ _) 0
   rw [HN.out] at hend
   have HE := Lib.hid hend; clear hend
   go_wp2_with fail
   go_ret
   exact ⟨_, rfl, HE.out⟩
 · have hcells := hL.l.cells (g := g) rfl
   have hdc : ∀ j u, (casesE k.due)[j]? = some u → w.cell? ((⟨g, k.done * 4, none⟩ : Addr).add j) = some u := fun j u hu => by
     unfold KS.due at hu
     rw [← casesE_drop, List.getElem?_drop] at hu
     have := hcells _ _ hu
     rw [Addr.add_lit] at this ⊢
     rw [Nat.zero_add] at this
     exact this
   have hdl : (casesE k.due).length = (k.L.length - k.done) * 4 := by rw [casesE_length, hdue]
   have HDC := Lib.hid hdc; have HDL := Lib.hid hdl; have HONE := Lib.hid hone; have HDU := Lib.hid hdue
   clear hL hF1 hF3 hlt hcells hdc hdl hone hg htk hcs hdue
   generalize hl : k.L.length = len at *
   generalize hd : k.done = dn at *
   clear hl hd
   by_cases hcd : cap = dn
   · subst hcd
     have hle : len = cap := by omega
     subst hle
     have HNE := Lib.hid (show casesE k.due = [] from List.eq_nil_of_length_eq_zero (by rw [HDL.out]; omega))
     go_enter Tryz.func133, Tryz.ntmps133
     go_wp2_with fail
     go_region_law ((refine step_append_at rfl (.tmp 4) (.tmp 13) 45 rfl w.heap.size 93 i0 z0 4 32 Tryz.underlying45 hi hz0 hz1 hz2 hz3 (by decide) (.slice none 0 0) 0 [] rfl (World.ownsRow_nil _ _ _ _) ⟨g, 0, none⟩ 0 0 [] rfl rfl (by intro j u h; cases h) (by intro u h; cases h) (by decide) (by decide) (by simp) ?_; intro v' w2 ho hg2 hb2))
     all_goals
       obtain ⟨m0, m1, m2⟩ := HFAR.out w2 ⟨1, hg2⟩
       have hend := HEND.out w2 v' ⟨1, hg2⟩ (by rw [HNE.out, HDU.out, Nat.sub_self]; exact ho) 0
       have HE := Lib.hid hend; clear hend ho hg2 hb2
       go_wp2_with fail
       go_ret
       exact ⟨_, rfl, HE.out⟩
   · go_enter Tryz.func133, Tryz.ntmps133
     go_wp2_with fail
     go_region_law ((refine step_append_at rfl (.tmp 4) (.tmp 13) 45 rfl w.heap.size 93 i0 z0 4 32 Tryz.underlying45 hi hz0 hz1 hz2 hz3 (by decide) (.slice none 0 0) 0 [] rfl (World.ownsRow_nil _ _ _ _) ⟨g, dn * 4, none⟩ (len - dn) (cap - dn) (casesE k.due) rfl HDL.out (HDC.out) HONE.out (by unfold maxLen; omega) (by omega) (by simp) ?_; intro v' w2 ho hg2 hb2))
     all_goals
       obtain ⟨m0, m1, m2⟩ := HFAR.out w2 ⟨1, hg2⟩
       have hend := HEND.out w2 v' ⟨1, hg2⟩ (by rw [HDU.out]; simpa using ho) 0
       have HE := Lib.hid hend; clear hend ho hg2 hb2
       go_wp2_with fail
       go_ret
       exact ⟨_, rfl, HE.out⟩
end Go.Proofs.YtajnfkmkombajaaGreatDoor
namespace Go.Proofs.YtajnfkmkombajaaGreatDoor
open Go.RowKit
set_option maxHeartbeats 400000 in
theorem refp_Burn (b hb : Nat) (p : PS) (n : Int) (w : World) (h : RPurseAt b hb p w) :
   Calls Tryz.prog 135 #[.pointer (some ⟨b, 0, none⟩), .int .i64 n] w fun e w' => e = .returned (.int .i64 (p.burnOp n).1) ∧ RPurseP b hb (p.burnOp n).2 w w' := by
 by_cases hn : amtB n = true
 · obtain ⟨n0, n1⟩ := amtB_iff.1 hn
   have hc1 := h.c1
   have b2 := h.ok.le; have b3 := h.ok.most; have b4 := h.ok.sum_bd
   have HN := Lib.hid hn
   have H := Lib.hid h
   by_cases hm : p.supply - p.sum < n
   · have hg : p.burnOp n = (6, p) := by unfold PS.burnOp; rw [if_neg (by simp [hn]), if_pos hm]
     have HM := Lib.hid hg
     have hd : decide (p.supply - p.sum < n) = true := decide_eq_true hm
     have hS := Lib.hid (refp_Sum b hb p)
     clear hg h hn hm
     generalize p.supply = y at *
     generalize p.sum = z at *
     go_enter Tryz.func135, Tryz.ntmps135
     go_wp2_with fail
     refine (refb_IsAmount _ _).mono ?_
     rw [HN.out]
     rintro e w' ⟨rfl, rfl⟩
     go_wp2_with fail
     go_quiet ((go_at_call 64; exact Calls.quiet_of_same ((hS.out _ (H.out.drewN _)).mono fun _ _ ⟨a, b⟩ => ⟨a, b.symm⟩)))
     go_wp2_with fail
     go_ret
     rw [HM.out]
     exact ⟨rfl, (Keep.refl _ _).drewN _, H.out.drewN _⟩
   · have hg : p.burnOp n = (0, p.grow (-n)) := by unfold PS.burnOp; rw [if_neg (by simp [hn]), if_neg hm]
     have f1 := h.row.frozen 1
     have hok := h.ok.grow (n := -n) (by omega) (by omega)
     have hfin := h.setSupply (-n) hok
     rw [show p.supply + -n = p.supply - n from (Int.sub_eq_add_neg).symm] at hfin
     have HF := Lib.hid hfin; have HM := Lib.hid hg
     have HK := Lib.hid (show Keep (Two b hb) w (w.setCell ⟨b, 1, none⟩ (.int .i64 (p.supply - n))) from (Keep.refl _ _).putS)
     have hd : decide (p.supply - p.sum < n) = false := decide_eq_false hm
     have hS := Lib.hid (refp_Sum b hb p)
     clear hg h hn hok hfin
     generalize p.supply = y at *
     generalize p.sum = z at *
     go_enter Tryz.func135, Tryz.ntmps135
     go_wp2_with fail
     refine (refb_IsAmount _ _).mono ?_
     rw [HN.out]
     rintro e w' ⟨rfl, rfl⟩
     go_wp2_with fail
     go_quiet ((go_at_call 64; exact Calls.quiet_of_same ((hS.out _ (H.out.drewN _)).mono fun _ _ ⟨a, b⟩ => ⟨a, b.symm⟩)))
     go_wp2_with fail
     go_ret
     rw [HM.out]
     exact ⟨rfl, HK.out.drewN _, HF.out.drewN _⟩
 · have hn' : amtB n = false := by simpa using hn
   have hg : p.burnOp n = (2, p) := by unfold PS.burnOp; rw [if_pos hn']
   have HM := Lib.hid hg; have H := Lib.hid h; have HN := Lib.hid hn'
   clear hg h hn hn'
   go_enter Tryz.func135, Tryz.ntmps135
   go_wp2_with fail
   refine (refb_IsAmount _ _).mono ?_
   rw [HN.out]
   rintro e w' ⟨rfl, rfl⟩
   go_wp2_with fail
   go_ret
   rw [HM.out]
   exact ⟨rfl, RPurseP.refl H.out⟩
set_option maxHeartbeats 400000 in
theorem refp_In (b hb : Nat) (p : PS) (o n : Int) (w : World) (h : RPurseAt b hb p w) :
   Calls Tryz.prog 40 #[.pointer (some ⟨b, 0, none⟩), .int .i64 o, .int .i64 n] w fun e w' => e = .returned (.int .i64 (p.inOp o n).1) ∧ RPurseP b hb (p.inOp o n).2 w w' := by
 by_cases hl : lookC o n = 0
 · obtain ⟨ho, hn0, hn1⟩ := lookC_zero.1 hl
   have HL := Lib.hid hl
   have b2 := h.ok.le; have b3 := h.ok.most; have b4 := h.ok.sum_bd
   obtain ⟨h0, h6⟩ := ownB_iff.1 ho
   obtain ⟨k, rfl⟩ := Int.eq_ofNat_of_zero_le h0
   have hk : k < 6 := by omega
   have hc0 := h.c0
   have hc1 := h.c1
   have H := Lib.hid h
   have hS := Lib.hid (refp_Sum b hb p)
   have hz0 : ((0 : Int) == 0) = true := rfl
   by_cases hm : p.supply - p.sum < n
   · have hmo : p.inOp k n = (6, p) := by unfold PS.inOp; rw [hl, if_neg (by simp), if_pos hm]
     have HM := Lib.hid hmo
     have hd : decide (p.supply - p.sum < n) = true := decide_eq_true hm
     clear hl ho hmo h h0 h6 hm
     generalize p.supply = y at *
     generalize p.sum = z at *
     go_enter Tryz.func40, Tryz.ntmps40
     go_wp2_with fail
     refine (refp_Error_yes _ _ _ _ HL.out).mono ?_
     rintro e w' ⟨rfl, rfl⟩
     go_wp2_with fail
     go_quiet ((go_at_call 64; exact Calls.quiet_of_same ((hS.out _ (H.out.drewN _)).mono fun _ _ ⟨a, b⟩ => ⟨a, b.symm⟩)))
     go_wp2_with fail
     go_ret
     rw [HM.out]
     exact ⟨rfl, (Keep.refl _ _).drewN _, H.out.drewN _⟩
   · have hmo : p.inOp k n = (0, p.change k n) := by unfold PS.inOp; rw [hl, if_neg (by simp), if_neg hm]
     have hck := h.hc hk
     have bk := h.ok.at_bd (k : Int)
     have fk := h.has.frozen k
     have hok := h.ok.change (o := k) (n := n) ho (by omega) (by omega)
     have HF := Lib.hid (h.setHas (k := k) n hok); have HM := Lib.hid hmo
     have HK := Lib.hid (show Keep (Two b hb) w (w.setCell ⟨hb, k, none⟩ (.int .i64 (p.at k + n))) from (Keep.refl _ _).putH)
     have hd : decide (p.supply - p.sum < n) = false := decide_eq_false hm
     clear hl ho hmo hok h h0 h6
     generalize p.at (k : Int) = x at *
     generalize p.supply = y at *
     generalize p.sum = z at *
     go_enter Tryz.func40, Tryz.ntmps40
     go_wp2_with fail
     refine (refp_Error_yes _ _ _ _ HL.out).mono ?_
     rintro e w' ⟨rfl, rfl⟩
     go_wp2_with fail
     go_quiet ((go_at_call 64; exact Calls.quiet_of_same ((hS.out _ (H.out.drewN _)).mono fun _ _ ⟨a, b⟩ => ⟨a, b.symm⟩)))
     go_wp2_with fail
     go_region
     go_wp2_with fail
     go_ret
     rw [HM.out]
     exact ⟨rfl, (HK.out.drewN _), HF.out.drewN _⟩
 · have hmo : p.inOp o n = (2, p) := by unfold PS.inOp; rw [if_pos hl]
   have HM := Lib.hid hmo; have H := Lib.hid h; have HL := Lib.hid hl
   clear hl hmo h
   go_enter Tryz.func40, Tryz.ntmps40
   go_wp2_with fail
   refine (refp_Error_no _ _ _ _ HL.out).mono ?_
   rintro e w' ⟨rfl, rfl⟩
   go_wp2_with fail
   go_quiet (fail)
   go_wp2_with fail
   go_ret
   rw [HM.out]
   exact ⟨rfl, (Keep.refl _ _).drewN _, H.out.drewN _⟩
end Go.Proofs.YtajnfkmkombajaaGreatDoor
namespace Go.Proofs.YtajnfkmkombajaaGreatDoor
open Go.RowKit
theorem PS.moveOp_short {p : PS} {a b n : Int} (h1 : lookC b n = 0) (h2 : lookC a n = 0) (h : p.at a < n) : p.moveOp a b n = (6, p) := by
 have : p.outOp a n = (6, p) := by unfold PS.outOp; rw [h2, if_neg (by simp), if_pos h]
 unfold PS.moveOp; rw [h1, this]; rfl
theorem PS.moveOp_in {p : PS} (hp : p.Ok) {a b n : Int} (h1 : lookC b n = 0) (h2 : lookC a n = 0) (h : ¬ p.at a < n) : p.moveOp a b n = (0, (p.change a (-n)).change b n) := by
 have h3 : p.outOp a n = (0, p.change a (-n)) := by unfold PS.outOp; rw [h2, if_neg (by simp), if_neg h]
 have h4 : (p.change a (-n)).inOp b n = (0, (p.change a (-n)).change b n) := by
   unfold PS.inOp; rw [h1, if_neg (by simp), if_neg]
   have := hp.le
   simp only [PS.change]; omega
 unfold PS.moveOp; rw [h1, h3]; exact h4
set_option maxHeartbeats 400000 in
theorem refp_Move (b hb : Nat) (p : PS) (o t n : Int) (w : World) (h : RPurseAt b hb p w) :
   Calls Tryz.prog 20 #[.pointer (some ⟨b, 0, none⟩), .int .i64 o, .int .i64 t, .int .i64 n] w fun e w' => e = .returned (.int .i64 (p.moveOp o t n).1) ∧ RPurseP b hb (p.moveOp o t n).2 w w' := by
 have hz0 : ((0 : Int) == 0) = true := rfl
 by_cases ht : lookC t n = 0
 · by_cases hl : lookC o n = 0
   · obtain ⟨ho, hn0, hn1⟩ := lookC_zero.1 hl
     obtain ⟨ho', -, -⟩ := lookC_zero.1 ht
     have HT := Lib.hid ht
     have HL := Lib.hid hl
     have b2 := h.ok.le; have b3 := h.ok.most; have b4 := h.ok.sum_bd
     obtain ⟨h0, h6⟩ := ownB_iff.1 ho
     obtain ⟨k, rfl⟩ := Int.eq_ofNat_of_zero_le h0
     have hk : k < 6 := by omega
     obtain ⟨h0', h6'⟩ := ownB_iff.1 ho'
     obtain ⟨j, rfl⟩ := Int.eq_ofNat_of_zero_le h0'
     have hj : j < 6 := by omega
     have hc0 := h.c0
     have hck := h.hc hk
     have bk := h.ok.at_bd (k : Int)
     by_cases hm : p.at k < n
     · have HM := Lib.hid (PS.moveOp_short ht hl hm); have H := Lib.hid h
       have hd : decide (p.at k < n) = true := decide_eq_true hm
       clear ht hl ho ho' h h0 h6 h0' h6'
       generalize hx : p.at (k : Int) = x at *
       clear hx hm
       go_enter Tryz.func20, Tryz.ntmps20
       go_wp2_with fail
       refine (refp_Error_yes _ _ _ _ HT.out).mono ?_
       rintro e w' ⟨rfl, rfl⟩
       go_wp2_with fail
       refine (refp_Error_yes _ _ _ _ HL.out).mono ?_
       rintro e w' ⟨rfl, rfl⟩
       go_wp2_with fail
       go_ret
       rw [HM.out]
       exact ⟨rfl, RPurseP.refl H.out⟩
     · have HM := Lib.hid (PS.moveOp_in h.ok ht hl hm)
       have fk := h.has.frozen k
       have hok := h.ok.change (o := k) (n := -n) ho (by omega) (by omega)
       have hfin := h.setHas (k := k) (-n) hok
       rw [show p.at k + -n = p.at k - n from (Int.sub_eq_add_neg).symm] at hfin
       have K1 : Keep (Two b hb) w (w.setCell ⟨hb, k, none⟩ (.int .i64 (p.at k - n))) := (Keep.refl _ _).putH
       have hok2 := hok.change (o := j) (n := n) ho' (by have := (hok.at_bd (j : Int)).1; omega) (by simp only [PS.change]; omega)
       have HK1 := Lib.hid K1
       have HO2 := Lib.hid hok2
       have HF1 := Lib.hid hfin
       have hd : decide (p.at k < n) = false := decide_eq_false hm
       clear ht hl ho ho' h h0 h6 h0' h6' K1 hok2 hfin
       generalize hq : p.change (k : Int) (-n) = q at *
       have bq := hok.at_bd (j : Int)
       have hqs : q.sum ≤ 1125899906842624 := by have := hok.le; have := hok.most; omega
       clear hq hok
       generalize hx : p.at (k : Int) = x at *
       clear hx
       go_enter Tryz.func20, Tryz.ntmps20
       go_wp2_with fail
       refine (refp_Error_yes _ _ _ _ HT.out).mono ?_
       rintro e w' ⟨rfl, rfl⟩
       go_wp2_with fail
       refine (refp_Error_yes _ _ _ _ HL.out).mono ?_
       rintro e w' ⟨rfl, rfl⟩
       go_wp2_with fail
       go_region
       generalize w.setCell ⟨hb, k, none⟩ (.int .i64 (x - n)) = w1 at *
       clear hc0 hck fk
       have hc0 := HF1.out.c0
       have hcj := HF1.out.hc hj
       have fj := HF1.out.has.frozen j
       have HF2 := Lib.hid (HF1.out.setHas (k := j) n HO2.out)
       have HK2 := Lib.hid (show Keep (Two b hb) w (w1.setCell ⟨hb, j, none⟩ (.int .i64 (q.at j + n))) from HK1.out.putH)
       generalize q.at (j : Int) = y at *
       go_wp2_with fail
       go_region
       go_wp2_with fail
       go_ret
       rw [HM.out]
       exact ⟨rfl, HK2.out.drew.drew, (HF2.out.drewN 1).drewN 1⟩
   · have hmo : p.moveOp o t n = (2, p) := by
       have : p.outOp o n = (2, p) := by unfold PS.outOp; rw [if_pos hl]
       unfold PS.moveOp; rw [ht, this]; rfl
     have HM := Lib.hid hmo; have H := Lib.hid h; have HL := Lib.hid hl; have HT := Lib.hid ht
     clear hl ht hmo h
     go_enter Tryz.func20, Tryz.ntmps20
     go_wp2_with fail
     refine (refp_Error_yes _ _ _ _ HT.out).mono ?_
     rintro e w' ⟨rfl, rfl⟩
     go_wp2_with fail
     refine (refp_Error_no _ _ _ _ HL.out).mono ?_
     rintro e w' ⟨rfl, rfl⟩
     go_wp2_with fail
     go_ret
     rw [HM.out]
     exact ⟨rfl, RPurseP.refl H.out⟩
 · have hmo : p.moveOp o t n = (2, p) := by unfold PS.moveOp; rw [if_pos ht]
   have HM := Lib.hid hmo; have H := Lib.hid h; have HT := Lib.hid ht
   clear ht hmo h
   go_enter Tryz.func20, Tryz.ntmps20
   go_wp2_with fail
   refine (refp_Error_no _ _ _ _ HT.out).mono ?_
   rintro e w' ⟨rfl, rfl⟩
   go_wp2_with fail
   go_ret
   rw [HM.out]
   exact ⟨rfl, RPurseP.refl H.out⟩
end Go.Proofs.YtajnfkmkombajaaGreatDoor
namespace Go.Proofs.YtajnfkmkombajaaGreatDoor
open Go.RowKit
structure PicsOf (x : CS) (Z : List (List Int)) : Prop where
 cy : 0 ≤ x.cycle
 len : Z.length = x.cycle.toNat + 3
 dr : Z.drop x.cycle.toNat = x.pics
theorem PicsOf.new : PicsOf CS.new [pic0, pic0, pic0] := ⟨by decide, rfl, rfl⟩
theorem PicsOf.same {x y : CS} {Z : List (List Int)} (h : PicsOf x Z) (hc : y.cycle = x.cycle) (hp : y.pics = x.pics) : PicsOf y Z := ⟨by rw [hc]; exact h.cy, by rw [hc]; exact h.len, by rw [hc, hp]; exact h.dr⟩
theorem PicsOf.three {x : CS} {Z : List (List Int)} (h : PicsOf x Z) : x.pics.length = 3 := by rw [← h.dr, List.length_drop, h.len]; omega
theorem PicsOf.get {x : CS} {Z : List (List Int)} (h : PicsOf x Z) {k : Nat} (hk : k < 3) : Z[x.cycle.toNat + k]? = some (x.pics.getD k []) := by
 rw [← h.dr, List.getD_eq_getElem?_getD, List.getElem?_drop, List.getElem?_eq_getElem (by rw [h.len]; omega)]; rfl
theorem PicsOf.cycled {x y : CS} {Z : List (List Int)} (h : PicsOf x Z) {p : List Int} (hc : y.cycle = x.cycle + 1) (hp : y.pics = x.pics.drop 1 ++ [p]) : PicsOf y (Z ++ [p]) := by
 have h0 := h.cy
 have e : y.cycle.toNat = x.cycle.toNat + 1 := by rw [hc]; omega
 refine ⟨by omega, by rw [List.length_append, h.len, e, List.length_singleton], ?_⟩
 rw [e, hp, ← h.dr, List.drop_append_of_le_length (by rw [h.len]; omega), List.drop_drop]
theorem CS.judged_pics (x : CS) : x.judged.pics = x.pics ∧ x.judged.cycle = x.cycle := by
 have : ∀ (l : List (Int × EV)) (c : CS), (l.foldl CS.judge c).pics = c.pics ∧ (l.foldl CS.judge c).cycle = c.cycle := by
   intro l
   induction l with
   | nil => intro c; exact ⟨rfl, rfl⟩
   | cons y l ih => intro c; exact ih (c.judge y)
 exact this _ _
theorem PicsOf.end {x : CS} {Z : List (List Int)} (h : PicsOf x Z) : PicsOf x.endOp (Z ++ [x.judged.newPic]) :=
 h.cycled (show x.judged.cycle + 1 = _ by rw [(CS.judged_pics x).2]) (show x.judged.pics.drop 1 ++ [x.judged.newPic] = _ by rw [(CS.judged_pics x).1])
end Go.Proofs.YtajnfkmkombajaaGreatDoor
