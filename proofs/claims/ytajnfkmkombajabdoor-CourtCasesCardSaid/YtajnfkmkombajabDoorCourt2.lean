/- Package court in memory: Accuse, Due. -/
import Derived.Test.YtajnfkmkombajabDoorCourt
import Derived.Test.YtajnfkmkombajabDoorAppRow
import Derived.Test.YtajnfkmkombajabDoorShelf
set_option linter.unusedVariables false
set_option linter.unusedSimpArgs false
namespace Go.Proofs.YtajnfkmkombajabDoor
open Go.RowKit Go.Maps

theorem KS.code_of {k : KS} {o : Int} {e : EV} {cy : Int} (h1 : ownB o = true) (h2 : 0 ≤ e.b ∧ e.b < 3) (h3 : 0 ≤ e.n) (h4 : 0 ≤ cy ∧ cy ≤ 1048576) : k.code o e cy = if cy < e.c ∨ e.c < cy - 2 ∨ e.c < 0 then 10 else if k.has e then 5 else 0 := by
  unfold KS.code KS.has; rw [if_neg (by simp [h1]; omega)]
theorem KS.acc_bad {k : KS} {o : Int} {e : EV} {cy : Int} {c : Nat} (h : k.code o e cy = c) (hc : c ≠ 0) : k.accuse o e cy = (c, k) := by unfold KS.accuse; rw [if_pos (by rw [h]; exact hc), h]
theorem KS.acc_ok {k : KS} {o : Int} {e : EV} {cy : Int} (h : k.code o e cy = 0) : k.accuse o e cy = (0, ⟨k.L ++ [(o, e)], k.done⟩) := by unfold KS.accuse; rw [if_neg (by simp [h])]
theorem KS.bound {k : KS} {o : Int} {e : EV} {cy : Int} (h : o < 0 ∨ 6 ≤ o ∨ e.b < 0 ∨ 3 ≤ e.b ∨ e.n < 0 ∨ cy < 0 ∨ 1048576 < cy) : k.code o e cy = 2 := by
  unfold KS.code; rw [if_pos]
  rcases h with h | h | h | h | h | h | h
  · exact .inl (by cases ho : ownB o with | false => rfl | true => have := ownB_iff.1 ho; omega)
  · exact .inl (by cases ho : ownB o with | false => rfl | true => have := ownB_iff.1 ho; omega)
  all_goals simp [h]
theorem KS.has_add (k : KS) (o : Int) (e f : EV) : (KS.mk (k.L ++ [(o, e)]) k.done).has f = (k.has f || decide (e = f)) := by simp [KS.has]
theorem KS.due_add {k : KS} (h : k.done ≤ k.L.length) (o : Int) (e : EV) : (KS.mk (k.L ++ [(o, e)]) k.done).due = k.due ++ [(o, e)] := by
  unfold KS.due; simp only; rw [List.drop_append_of_le_length h]

/-- the court has one case more -/
theorem CourtL.added {kb mb n : Nat} {dv dv' : Value} {k : KS} {o : Int} {e : EV} {w w1 w2 : World} {D : DataW Unit} (h : CourtL kb mb dv n k w) (he : e.wf)
    (hD : w.ownsMap Tryd.prog 28 (plainElem Tryd.prog 4) mb n D) (hA : ∀ f : EV, f.wf → D.atKey (evK f) (.lit (.bool false)) = .lit (.bool (k.has f)))
    (hm : w2.ownsMap Tryd.prog 28 (plainElem Tryd.prog 4) mb (n + 1) (D.put (evK e) (.lit (.bool true)))) (hr : RowAt kb 125 [.map (some mb), dv'] w2)
    (hd : w2.ownsRow 0 36 4 dv' (k.due.length + 1) (casesE k.due ++ caseE (o, e))) (hk : dv'.ownBlock ≠ some kb) (hk2 : dv'.ownBlock ≠ some mb) : CourtL kb mb dv' (n + 1) ⟨k.L ++ [(o, e)], k.done⟩ w2 := by
  refine ⟨hr, h.ne, ⟨_, hm, fun f hf => ?_⟩, ?_, hk, hk2, fun x hx => ?_, by have := h.done; simp; omega⟩
  · rw [KS.has_add]
    by_cases hef : e = f
    · subst hef
      rw [Maps.atKey_put_same hD.isMap (keyE.key (keyOf_ev he))]; simp
    · rw [Maps.atKey_put_other (fun e' => hef (evK_inj he hf e'.symm)), hA f hf]; simp [hef]
  · rw [KS.due_add h.done, casesE_snoc, List.length_append]; exact hd
  · rcases List.mem_append.1 hx with hx | hx
    · exact h.wf x hx
    · obtain rfl := List.mem_singleton.1 hx; exact he

theorem KS.has_wf (k : KS) (e : EV) : (k.L.any (fun x => decide (x.2 = e))) = k.has e := rfl
theorem infoCase : (Tryd.prog.info? 36).map (fun i => (i.zero.map (fun z => z.cells.size), i.size, i.bytes)) = some (some 4, 4, 32) := by kernel_rfl
theorem info_case : ∃ i z, Tryd.prog.info? 36 = some i ∧ i.zero = some z ∧ i.size = 4 ∧ i.bytes = 32 ∧ z.cells.size = 4 := by
  have h := infoCase
  cases hi : Tryd.prog.info? 36 with
  | none => rw [hi] at h; cases h
  | some i =>
    rw [hi] at h
    simp only [Option.map_some, Option.some.injEq, Prod.mk.injEq] at h
    obtain ⟨h1, h2, h3⟩ := h
    cases hz : i.zero with
    | none => rw [hz] at h1; cases h1
    | some z => rw [hz] at h1; simp at h1; exact ⟨i, z, rfl, hz, h2, h3, h1⟩

/-- a court's map, looked up -/
theorem CourtL.look {kb mb n : Nat} {dv : Value} {k : KS} {w : World} (h : CourtL kb mb dv n k w) {e : EV} (he : e.wf) (j : Nat) : (Instr.lookup 123 (.map (some mb)) (evV e) false).run Tryd.prog (w.drewN j) = .ok (.bool (k.has e)) (w.drewN j) := by
  obtain ⟨D, hm, hA⟩ := h.map
  obtain ⟨c, hrun, hat⟩ := lookup_bool (show (w.drewN j).ownsMap Tryd.prog 28 (plainElem Tryd.prog 4) mb n D from hm) keyE Tryd.underlying123 Tryd.underlying4 (zeroB _) (keyOf_ev he)
  have : c = k.has e := by have := hat.symm.trans (hA e he); simpa using this
  rw [← this]; exact hrun

/-- behind the call's own box of the evidence -/
structure AccB (w : World) (kb mb : Nat) (dv : Value) (A : Nat → Addr) (k : KS) (e : EV) (w1 : World) : Prop where
  below : Below w.heap.size w w1
  size : w1.heap.size = w.heap.size + 1
  e0 : w1.cell? ⟨w.heap.size, 0, none⟩ = some (.int .i64 e.b)
  e1 : w1.cell? ⟨w.heap.size, 1, none⟩ = some (.int .i64 e.c)
  e2 : w1.cell? ⟨w.heap.size, 2, none⟩ = some (.int .i64 e.n)
  g2 : w1.cell? ⟨0, 0, none⟩ = some (.iface 273 (.pointer (some (A 2))))
  g5 : w1.cell? ⟨2, 0, none⟩ = some (.iface 273 (.pointer (some (A 5))))
  g10 : w1.cell? ⟨1, 0, none⟩ = some (.iface 273 (.pointer (some (A 10))))
  c0 : w1.cell? ⟨kb, 0, none⟩ = some (.map (some mb))
  c1 : w1.cell? ⟨kb, 1, none⟩ = some dv
  f1 : w1.frozen? ⟨kb, 1, none⟩ = false
  look : ∀ j, (Instr.lookup 123 (.map (some mb)) (evV e) false).run Tryd.prog (w1.drewN j) = .ok (.bool (k.has e)) (w1.drewN j)
theorem AccB.of {w : World} {kb mb n : Nat} {dv : Value} {A : Nat → Addr} {S : List Nat} {k : KS} {e : EV} (hL : CourtL kb mb dv n k w) (hE : Errs A S w) (h2 : 2 ∈ S) (h5 : 5 ∈ S) (h10 : 10 ∈ S) (hw : e.wf) :
    AccB w kb mb dv A k e (w.alloc (.cells #[.int .i64 e.b, .int .i64 e.c, .int .i64 e.n] 28)) := by
  have hb : Below w.heap.size w (w.alloc (.cells #[.int .i64 e.b, .int .i64 e.c, .int .i64 e.n] 28)) := (Below.refl _ _).alloc (Nat.le_refl _) _
  have hE1 := hE.below hb
  have hL1 : CourtL kb mb dv n k (w.alloc (.cells #[.int .i64 e.b, .int .i64 e.c, .int .i64 e.n] 28)) := hL.keep (G := fun _ => False) (Keep.of_below hb) id id (fun _ _ => id)
  exact ⟨hb, by simp, by simp [go_sem], by simp [go_sem], by simp [go_sem], hE1.cell 2 h2, hE1.cell 5 h5, hE1.cell 10 h10, hL1.row.cell 0, hL1.row.cell 1, hL1.row.frozen 1, hL1.look hw⟩

set_option maxRecDepth 8000 in
set_option maxHeartbeats 1000000 in
theorem court_Accuse_no (A : Nat → Addr) (S : List Nat) (kb : Nat) (F : Nat → Prop) (n : Nat) (k : KS) (o : Int) (e : EV) (cy : Int) (w : World) (h : CourtAt kb F n k w) (hE : Errs A S w) (h2 : 2 ∈ S) (h5 : 5 ∈ S) (h10 : 10 ∈ S) (hw : e.wf) (hc : k.code o e cy ≠ 0) :
    Calls Tryd.prog 17 #[.pointer (some ⟨kb, 0, none⟩), .int .i64 o, evV e, .int .i64 cy] w fun y w' => y = .returned (ev A (k.code o e cy)) ∧ CourtP kb F n k w w' := by
  have HC := Lib.hid (fun w' => CourtP.of_below (w' := w') h)
  obtain ⟨mb, dv, hL, -, -, -, -⟩ := h
  have hB := AccB.of hL hE h2 h5 h10 hw
  unfold evV
  generalize hw1 : w.alloc (.cells #[.int .i64 e.b, .int .i64 e.c, .int .i64 e.n] 28) = w1 at hB
  obtain ⟨hb1, -, e0, e1, e2, g2, g5, g10, c0, c1, f1, hlk⟩ := hB
  have HB1 := Lib.hid hb1; clear hb1
  by_cases hb : o < 0 ∨ 6 ≤ o ∨ e.b < 0 ∨ 3 ≤ e.b ∨ e.n < 0 ∨ cy < 0 ∨ 1048576 < cy
  · rw [KS.bound hb]
    have hcs : o < 0 ∨ (0 ≤ o ∧ 6 ≤ o) ∨ (0 ≤ o ∧ o < 6 ∧ e.b < 0) ∨ (0 ≤ o ∧ o < 6 ∧ 0 ≤ e.b ∧ 3 ≤ e.b) ∨ (0 ≤ o ∧ o < 6 ∧ 0 ≤ e.b ∧ e.b < 3 ∧ e.n < 0) ∨ (0 ≤ o ∧ o < 6 ∧ 0 ≤ e.b ∧ e.b < 3 ∧ 0 ≤ e.n ∧ cy < 0) ∨ (0 ≤ o ∧ o < 6 ∧ 0 ≤ e.b ∧ e.b < 3 ∧ 0 ≤ e.n ∧ 0 ≤ cy ∧ 1048576 < cy) := by omega
    clear hL hE hlk hb hc hw
    obtain ⟨eb, ec, en⟩ := e
    simp only at hcs hw1 e0 e1 e2 ⊢
    rcases hcs with h1 | ⟨h1, h2⟩ | ⟨h1, h2, h3⟩ | ⟨h1, h2, h3, h4⟩ | ⟨h1, h2, h3, h4, h5⟩ | ⟨h1, h2, h3, h4, h5, h6⟩ | ⟨h1, h2, h3, h4, h5, h6, h7⟩
    all_goals
      go_enter Tryd.func17, Tryd.ntmps17
      go_wp2
      go_ret
      exact ⟨rfl, HC.out _ HB1.out⟩
  · have ho : ownB o = true := ownB_iff.2 (by omega)
    have hcd := KS.code_of (k := k) (o := o) (e := e) (cy := cy) ho (by omega) (by omega) (by omega)
    have i1 : 0 ≤ o := by omega
    have i2 : o < 6 := by omega
    have i3 : 0 ≤ e.b := by omega
    have i4 : e.b < 3 := by omega
    have i5 : 0 ≤ e.n := by omega
    have i6 : 0 ≤ cy := by omega
    have i7 : cy ≤ 1048576 := by omega
    by_cases hold : cy < e.c ∨ e.c < cy - 2 ∨ e.c < 0
    · rw [if_pos hold] at hcd
      rw [hcd]
      have hcs : cy < e.c ∨ (e.c ≤ cy ∧ e.c < cy - 2) ∨ (e.c ≤ cy ∧ cy - 2 ≤ e.c ∧ e.c < 0) := by omega
      clear hL hE hlk hb hc hold hcd ho hw
      obtain ⟨eb, ec, en⟩ := e
      simp only at hcs hw1 e0 e1 e2 i3 i4 i5 ⊢
      rcases hcs with j1 | ⟨j1, j2⟩ | ⟨j1, j2, j3⟩
      all_goals
        go_enter Tryd.func17, Tryd.ntmps17
        go_wp2
        go_ret
        exact ⟨rfl, HC.out _ HB1.out⟩
    · rw [if_neg hold] at hcd
      have hh : k.has e = true := by
        cases hx : k.has e with
        | true => rfl
        | false => rw [hx] at hcd; simp at hcd; exact absurd hcd hc
      rw [hh] at hcd hlk
      simp only [if_true] at hcd
      rw [hcd]
      have j1 : e.c ≤ cy := by omega
      have j2 : cy - 2 ≤ e.c := by omega
      have j3 : 0 ≤ e.c := by omega
      clear hL hE hb hc hold hcd ho hh hw
      obtain ⟨eb, ec, en⟩ := e
      unfold evV at hlk
      simp only at hlk hw1 e0 e1 e2 i3 i4 i5 j1 j2 j3 ⊢
      go_enter Tryd.func17, Tryd.ntmps17
      go_wp2_with fail
      go_quiet (fail)
      go_wp2
      go_ret
      exact ⟨rfl, HC.out _ (HB1.out.drewN _)⟩

theorem CourtL.finish {kb mb n i j g cap : Nat} {dv : Value} {k : KS} {F : Nat → Prop} {w w1 w2 w3 : World} {ob : Obj} {o : Int} {e : EV} {D : DataW Unit} (hL : CourtL kb mb dv n k w) (hF1 : F kb) (hF2 : F mb) (hF3 : ∀ g, dv.ownBlock = some g → F g) (hlt : ∀ b, F b → b < w.heap.size) (he : e.wf)
    (hD : w.ownsMap Tryd.prog 28 (plainElem Tryd.prog 4) mb n D) (hA : ∀ f : EV, f.wf → D.atKey (evK f) (.lit (.bool false)) = .lit (.bool (k.has f)))
    (hb1 : Below w.heap.size w w1) (ht : (w1.drewN j).mapTurned w2 mb) (hm : w2.ownsMap Tryd.prog 28 (plainElem Tryd.prog 4) mb (n + 1) (D.put (evK e) (.lit (.bool true))))
    (hg : ((w2.drewN i).alloc ob).grownBy w3 dv.ownBlock) (ho : w3.ownsRow 0 36 4 (.slice (some ⟨g, 0, none⟩) (k.due.length + 1) cap) (k.due.length + 1) (casesE k.due ++ caseE (o, e)))
    (hor : dv.ownBlock = some g ∨ g = w2.heap.size + 1) (hgl : g < w3.heap.size) :
    CourtP kb F (n + 1) ⟨k.L ++ [(o, e)], k.done⟩ w (w3.setCell ⟨kb, 1, none⟩ (.slice (some ⟨g, 0, none⟩) (k.due.length + 1) cap)) := by
  have KG : ∀ G : Nat → Prop, G mb → (∀ g, dv.ownBlock = some g → G g) → Keep G w w3 := fun G h1 h2 =>
    ((((Keep.of_below (F := G) hb1).drewN j).grown ht.grown (fun k hk => by cases hk; exact .inl h1)).drewN i |>.alloc ob).grown hg (fun k hk => .inl (h2 k hk))
  have hw2 : w.heap.size ≤ w2.heap.size := Nat.le_trans hb1.size ht.grown.size
  have hkb := hL.row.lt
  have hmb := hlt _ hF2
  have hgk : g ≠ kb := by
    rcases hor with h | h
    · exact fun e => hL.dk (by rw [h, e])
    · omega
  have hgm : g ≠ mb := by
    rcases hor with h | h
    · exact fun e => hL.dm (by rw [h, e])
    · omega
  have K5 : Keep F w (w3.setCell ⟨kb, 1, none⟩ (.slice (some ⟨g, 0, none⟩) (k.due.length + 1) cap)) := (KG F hF2 hF3).setCell (p := ⟨kb, 1, none⟩) (.inl hF1) _
  have hrow : RowAt kb 125 [.map (some mb), dv] w3 := hL.row.keep (KG (fun b => b = mb ∨ dv.ownBlock = some b) (.inl rfl) (fun g h => .inr h)) (by
    rintro (h | h)
    · exact hL.ne h
    · exact hL.dk h)
  have hset := hrow.set 1 (.slice (some ⟨g, 0, none⟩) (k.due.length + 1) cap)
  refine ⟨K5, mb, .slice (some ⟨g, 0, none⟩) (k.due.length + 1) cap, hL.added (w1 := w1) he hD hA ?_ hset ?_ ?_ ?_, .inl hF1, .inl hF2, fun g' hg' => ?_, grownF_lt hlt K5.size⟩
  · obtain ⟨es, clock, q1, q2⟩ := hm
    refine ⟨es, clock, ?_, q2⟩
    rw [Below.heap_setCell _ _ _ _ (show mb ≠ kb from fun e => hL.ne e.symm), hg.block mb (by simp; omega) (fun e => hL.dm e.symm), Below.heap_alloc _ _ _ (by simp; omega)]
    exact q1
  · refine ownsRow_other ho (fun g' hg' => ?_)
    have : g' = g := by simpa [Value.ownBlock] using hg'.symm
    subst this
    exact Below.heap_setCell _ _ _ _ hgk
  · simpa [Value.ownBlock] using hgk
  · simpa [Value.ownBlock] using hgm
  · have : g' = g := by simpa [Value.ownBlock] using hg'.symm
    subst this
    rcases hor with h | h
    · exact .inl (hF3 _ h)
    · exact .inr ⟨by omega, by simpa [World.setCell] using hgl⟩

/-- what the court's block and the box hold while the map turns, and behind the append -/
theorem CourtL.far {kb mb n j : Nat} {dv : Value} {k : KS} {F : Nat → Prop} {w w1 : World} (hL : CourtL kb mb dv n k w) (hlt : ∀ b, F b → b < w.heap.size) (hF1 : F kb) (hF2 : F mb) (hb1 : Below w.heap.size w w1) (hF3 : ∀ g, dv.ownBlock = some g → F g) {a b c : Value} (e0 : w1.cell? ⟨w.heap.size, 0, none⟩ = some a) (e1 : w1.cell? ⟨w.heap.size, 1, none⟩ = some b) (e2 : w1.cell? ⟨w.heap.size, 2, none⟩ = some c) (w2 : World) (ht : (w1.drewN j).mapTurned w2 mb) :
    (w2.cell? ⟨w.heap.size, 0, none⟩ = some a ∧ w2.cell? ⟨w.heap.size, 1, none⟩ = some b ∧ w2.cell? ⟨w.heap.size, 2, none⟩ = some c ∧ w2.cell? ⟨kb, 1, none⟩ = some dv ∧ w2.frozen? ⟨kb, 1, none⟩ = false ∧ ∀ ob, (w2.alloc ob).cell? ⟨kb, 1, none⟩ = some dv) ∧
    (∀ i ob, ((w2.drewN i).alloc ob).ownsRow 0 36 4 dv k.due.length (casesE k.due)) ∧
    ∀ i ob w3, ((w2.drewN i).alloc ob).grownBy w3 dv.ownBlock → w3.cell? ⟨kb, 1, none⟩ = some dv ∧ w3.frozen? ⟨kb, 1, none⟩ = false := by
  have hmb := hlt _ hF2
  have hkb := hlt _ hF1
  have hs := hb1.size
  have hwl : w.heap.size < w1.heap.size := World.block_lt_of_cell? w1 _ e0
  have hx : ∀ i, w2.cell? ⟨w.heap.size, i, none⟩ = w1.cell? ⟨w.heap.size, i, none⟩ := fun i => turned_cell (w := w1.drewN j) ht hwl (by omega)
  have KG : Keep (fun b => b = mb) w w2 := ((Keep.of_below hb1).drewN j).grown ht.grown (fun k hk => by cases hk; exact .inl rfl)
  have hr2 : RowAt kb 125 [.map (some mb), dv] w2 := hL.row.keep KG hL.ne
  have hd2 : w2.ownsRow 0 36 4 dv k.due.length (casesE k.due) := ownsRow_other hL.due (fun g hg => KG.block g (hlt _ (hF3 g hg)) (fun e => hL.dm (by rw [hg, e])))
  refine ⟨⟨by rw [hx]; exact e0, by rw [hx]; exact e1, by rw [hx]; exact e2, hr2.cell 1, hr2.frozen 1, fun ob => (hr2.alloc ob).cell 1⟩, fun i ob => ?_, fun i ob w3 hg => ?_⟩
  · exact ownsRow_other hd2 (fun g hg => Below.heap_alloc _ _ _ (by have := hlt _ (hF3 g hg); have := KG.size; simp; omega))
  · have hr3 : RowAt kb 125 [.map (some mb), dv] w3 := hr2.keep ((((Keep.refl (fun b => dv.ownBlock = some b) w2).drewN i).alloc ob).grown hg (fun k hk => .inl hk)) hL.dk
    exact ⟨hr3.cell 1, hr3.frozen 1⟩

end Go.Proofs.YtajnfkmkombajabDoor
