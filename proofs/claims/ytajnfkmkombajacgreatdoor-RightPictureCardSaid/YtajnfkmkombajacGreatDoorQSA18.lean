/-
  The document's stakes in memory: what Leave writes.
  The document's stakes in memory: Leave.
  Contracts: pool.Copy; stake.Leave (what it does to the memory).
-/
import Derived.Test.YtajnfkmkombajacGreatDoorQSA17
import Derived.Deep.AppendLies
set_option linter.unusedVariables false
set_option linter.unusedSimpArgs false
set_option linter.unusedVariables false
namespace Go.Proofs.YtajnfkmkombajacGreatDoor
open Go.RowKit Go.Maps

theorem RStL.fresh {sb : Nat} {L : RLay} {wv : Value} {s : SS} {w : World} {F : Nat → Prop} (_h : RStL sb L wv s w) (hF : ∀ b, L.role b ≠ .none → F b) (hlt : ∀ b, F b → b < w.heap.size) {x : Nat} (hx : w.heap.size ≤ x) : L.role x = .none := by
  apply Decidable.byContradiction
  intro hn
  have := hlt x (hF x hn)
  omega
theorem RLay.put_none {L : RLay} {j b c m x : Nat} (hx : L.role x = .none) (h1 : x ≠ b) (h2 : x ≠ c) : (L.put j b c m).role x = .none := by
  show (if x = b then RRole.bp j else if x = c then RRole.bs j else if L.role x = .bp j ∨ L.role x = .bs j then RRole.none else L.role x) = _
  rw [if_neg h1, if_neg h2]; split
  · rfl
  · exact hx

/-- the pool of baker j and that of entry i are others now -/
theorem RStL.leaveIn {sb : Nat} {L : RLay} {wv : Value} {s : SS} {w w5 : World} {F : Nat → Prop} (h : RStL sb L wv s w) (hF : ∀ b, L.role b ≠ .none → F b) (hlt : ∀ b, F b → b < w.heap.size) {j i g b2 c2 m2 b4 c4 m4 : Nat} {x : WP} {c : Int} {q1 v1 : QS}
    (hj : j < 3) (hw : Below w.heap.size w w5) (hp : RPoolAt b2 c2 m2 q1 w5) (n2 : w.heap.size ≤ b2 ∧ w.heap.size ≤ c2) (hv : RPoolAt b4 c4 m4 v1 w5) (n4 : w.heap.size ≤ b4 ∧ w.heap.size ≤ c4) (nd : b4 ≠ b2 ∧ b4 ≠ c2 ∧ c4 ≠ b2 ∧ c4 ≠ c2)
    (hx : s.W[i]? = some x) (hf : s.find (j : Int) c = some x.q) (hb : x.b = j) (hc : x.c = c) (hg : wv.ownBlock = some g) (hok : ((s.setP (j : Int) q1).setW (j : Int) c v1).Ok) :
    RStP sb F ((s.setP (j : Int) q1).setW (j : Int) c v1) w ((((w5.setCell ⟨L.g, j, none⟩ (.pointer (some ⟨b2, 0, none⟩))).setCell ⟨g, i * 3, none⟩ (.int .i64 x.b)).setCell ⟨g, i * 3 + 1, none⟩ (.int .i64 x.c)).setCell ⟨g, i * 3 + 2, none⟩ (.pointer (some ⟨b4, 0, none⟩))) := by
  have rn : ∀ y, w.heap.size ≤ y → L.role y = .none := fun y hy => h.fresh hF hlt hy
  have h1 := (h.below hw).put hj hp (rn _ n2.1) (rn _ n2.2)
  have hok1 : (s.setP (j : Int) q1).Ok := h1.ok
  have e : (s.setP (j : Int) q1).setW (j : Int) c v1 = ⟨(s.setP (j : Int) q1).P, s.W.set i ⟨x.b, x.c, v1⟩⟩ := SS.setW_at hok1 (s := s.setP (j : Int) q1) hx hf hb hc v1
  rw [e] at hok ⊢
  have hgl : ∀ y, w.heap.size ≤ y → y ≠ L.g := fun y hy e => by
    have := hlt _ (hF L.g (by rw [h.rrow]; simp)); omega
  have hv' : RPoolAt b4 c4 m4 v1 (w5.setCell ⟨L.g, j, none⟩ (.pointer (some ⟨b2, 0, none⟩))) := hv.keep (Keep.put (b := L.g) (Keep.refl _ _) _) (hgl _ n4.1) (hgl _ n4.2)
  have h2 := h1.waitPut (i := i) (g := g) (x := x) hx hv' (RLay.put_none (rn _ n4.1) nd.1 nd.2.1) (RLay.put_none (rn _ n4.2) nd.2.2.1 nd.2.2.2) hg hok
  have rg := h.rwai g hg
  have hFg : F g := hF _ (by rw [rg]; simp)
  have hFL : F L.g := hF _ (by rw [h.rrow]; simp)
  have K : Keep F w ((((w5.setCell ⟨L.g, j, none⟩ (.pointer (some ⟨b2, 0, none⟩))).setCell ⟨g, i * 3, none⟩ (.int .i64 x.b)).setCell ⟨g, i * 3 + 1, none⟩ (.int .i64 x.c)).setCell ⟨g, i * 3 + 2, none⟩ (.pointer (some ⟨b4, 0, none⟩))) :=
    ((((Keep.of_below hw).setCell (p := ⟨L.g, j, none⟩) (.inl hFL) _).setCell (p := ⟨g, i * 3, none⟩) (.inl hFg) _).setCell (p := ⟨g, i * 3 + 1, none⟩) (.inl hFg) _).setCell (p := ⟨g, i * 3 + 2, none⟩) (.inl hFg) _
  have hs : ((((w5.setCell ⟨L.g, j, none⟩ (.pointer (some ⟨b2, 0, none⟩))).setCell ⟨g, i * 3, none⟩ (.int .i64 x.b)).setCell ⟨g, i * 3 + 1, none⟩ (.int .i64 x.c)).setCell ⟨g, i * 3 + 2, none⟩ (.pointer (some ⟨b4, 0, none⟩))).heap.size = w5.heap.size := by simp
  have l2 := hp.lt; have l4 := hv.lt
  refine ⟨K, _, wv, h2, fun y hy => ?_, grownF_lt hlt K.size⟩
  rcases RLay.put_some hy with rfl | rfl | hy
  · exact .inr ⟨n4.1, by rw [hs]; exact l4.1⟩
  · exact .inr ⟨n4.2, by rw [hs]; exact l4.2⟩
  · rcases RLay.put_some hy with rfl | rfl | hy
    · exact .inr ⟨n2.1, by rw [hs]; exact l2.1⟩
    · exact .inr ⟨n2.2, by rw [hs]; exact l2.2⟩
    · exact .inl (hF _ hy)

/-- the pool of baker j is another one now; one more waits: row g, as append has left it in w7 -/
theorem RStL.leaveAdd {sb : Nat} {L : RLay} {wv wv' : Value} {s : SS} {w w5 w7 : World} {F : Nat → Prop} (h : RStL sb L wv s w) (hF : ∀ b, L.role b ≠ .none → F b) (hlt : ∀ b, F b → b < w.heap.size) {j g b2 c2 m2 b4 c4 m4 : Nat} {c : Int} {q1 v1 : QS} {ob : Obj}
    (hj : j < 3) (hw : Below w.heap.size w w5) (hp : RPoolAt b2 c2 m2 q1 w5) (n2 : w.heap.size ≤ b2 ∧ w.heap.size ≤ c2) (hv : RPoolAt b4 c4 m4 v1 w5) (n4 : w.heap.size ≤ b4 ∧ w.heap.size ≤ c4) (nd : b4 ≠ b2 ∧ b4 ≠ c2 ∧ c4 ≠ b2 ∧ c4 ≠ c2)
    (hf : s.find (j : Int) c = none) (hok : ((s.setP (j : Int) q1).setW (j : Int) c v1).Ok)
    (hg : ((w5.setCell ⟨L.g, j, none⟩ (.pointer (some ⟨b2, 0, none⟩))).alloc ob).grownBy w7 wv.ownBlock) (hgo : wv'.ownBlock = some g) (hor : wv.ownBlock = some g ∨ g = w5.heap.size + 1) (hgl : g < w7.heap.size)
    (ho : w7.ownsRow 0 127 3 wv' (s.W.length + 1) (waitsE L s.W ++ [.int .i64 j, .int .i64 c, .pointer (some ⟨b4, 0, none⟩)])) :
    RStP sb F ((s.setP (j : Int) q1).setW (j : Int) c v1) w (w7.setCell ⟨sb, 1, none⟩ wv') := by
  have rn : ∀ y, w.heap.size ≤ y → L.role y = .none := fun y hy => h.fresh hF hlt hy
  have h1 := (h.below hw).put hj hp (rn _ n2.1) (rn _ n2.2)
  have e : (s.setP (j : Int) q1).setW (j : Int) c v1 = ⟨(s.setP (j : Int) q1).P, s.W ++ [⟨j, c, v1⟩]⟩ := SS.setW_new (s := s.setP (j : Int) q1) hf v1
  rw [e] at hok ⊢
  have l2 := hp.lt; have l4 := hv.lt
  have hws := hw.size
  have hg0 : ∀ k, wv.ownBlock = some k → L.role k = .wrow := h.rwai
  have hlr : ∀ y r, L.role y = r → r ≠ .none → y < w.heap.size := fun y r hy hr => hlt y (hF y (by rw [hy]; exact hr))
  have same : ∀ y, y < w.heap.size → L.role y ≠ .bp j → L.role y ≠ .bs j → (L.put j b2 c2 m2).role y = L.role y := fun y hy h1 h2 => by
    show (if y = b2 then RRole.bp j else if y = c2 then RRole.bs j else if L.role y = .bp j ∨ L.role y = .bs j then RRole.none else L.role y) = _
    rw [if_neg (by omega), if_neg (by omega), if_neg (fun e => e.elim h1 h2)]
  have rsb : sb < w.heap.size := hlr sb _ h.rtop (by simp)
  have wr : ∀ k, wv.ownBlock = some k → (L.put j b2 c2 m2).role k = .wrow := fun k hk => by
    have := hg0 k hk
    rw [same k (hlr k _ this (by simp)) (by rw [this]; simp) (by rw [this]; simp)]; exact this
  have K : Keep (fun y => y = sb ∨ (L.put j b2 c2 m2).role y = .wrow) (w5.setCell ⟨L.g, j, none⟩ (.pointer (some ⟨b2, 0, none⟩))) (w7.setCell ⟨sb, 1, none⟩ wv') :=
    (((Keep.refl _ _).alloc ob).grown hg (fun k hk => .inl (.inr (wr k hk)))).setCell (p := ⟨sb, 1, none⟩) (.inl (.inl rfl)) _
  have hs5 : (w5.setCell ⟨L.g, j, none⟩ (.pointer (some ⟨b2, 0, none⟩))).heap.size = w5.heap.size := by simp
  have hs7 : w5.heap.size + 1 ≤ w7.heap.size := by have := hg.size; simpa using this
  have gne : ∀ y, y < w.heap.size → (L.role y ≠ .wrow) → y ≠ g := fun y hy hr e => by
    subst e
    rcases hor with h | h
    · exact hr (hg0 _ h)
    · omega
  have bg : ∀ y, w.heap.size ≤ y → y < w5.heap.size → y ≠ g := fun y h1 h2 e => by
    subst e
    rcases hor with h | h
    · have := hlr _ _ (hg0 _ h) (by simp); omega
    · omega
  have top7 : RowAt sb 112 [.slice (some ⟨L.g, 0, none⟩) 3 3, wv] w7 := by
    have := h1.top.keep (((Keep.refl (fun y => (L.put j b2 c2 m2).role y = .wrow) _).alloc ob).grown hg (fun k hk => .inl (wr k hk))) (by rw [h1.rtop]; simp)
    exact this
  have hrow := top7.set 1 wv'
  have h2 := h1.waitAdd (wv' := wv') (g := g) (b := b4) (c := c4) (m := m4) (k := j) (cy := c) (q' := v1) hok K hrow hgo
    (by rcases hor with h | h
        · exact .inl (wr g h)
        · exact .inr (RLay.put_none (rn g (by omega)) (by omega) (by omega)))
    (by
      refine ownsRow_other ?_ (fun k hk => Below.heap_setCell _ _ _ _ ?_)
      · have := ho
        rw [← waitsE_put L hj b2 c2 m2 s.W] at this
        exact this
      · have : k = g := by rw [hgo] at hk; exact (Option.some.inj hk).symm
        subst this
        exact fun e => gne sb rsb (by rw [h.rtop]; simp) e.symm)
    ((hv.keep (Keep.put (b := L.g) (Keep.refl _ _) _) (fun e => by have := hlr L.g _ h.rrow (by simp); omega) (fun e => by have := hlr L.g _ h.rrow (by simp); omega)).keep K
      (fun e => by
        rcases e with e | e
        · omega
        · rw [RLay.put_none (rn _ n4.1) nd.1 nd.2.1] at e; cases e)
      (fun e => by
        rcases e with e | e
        · omega
        · rw [RLay.put_none (rn _ n4.2) nd.2.2.1 nd.2.2.2] at e; cases e))
    (RLay.put_none (rn _ n4.1) nd.1 nd.2.1) (RLay.put_none (rn _ n4.2) nd.2.2.1 nd.2.2.2) (bg _ n4.1 l4.1) (bg _ n4.2 l4.2)
  have KF : Keep F w (w7.setCell ⟨sb, 1, none⟩ wv') := by
    refine ((((Keep.of_below hw).setCell (p := ⟨L.g, j, none⟩) (.inl (hF _ (by rw [h.rrow]; simp))) _).alloc ob).grown hg (fun k hk => .inl (hF _ (by rw [hg0 k hk]; simp)))).setCell (p := ⟨sb, 1, none⟩) (.inl (hF _ (by rw [h.rtop]; simp))) _
  have hs : (w7.setCell ⟨sb, 1, none⟩ wv').heap.size = w7.heap.size := by simp
  refine ⟨KF, _, wv', h2, fun y hy => ?_, grownF_lt hlt KF.size⟩
  rcases RLay.add_some hy with rfl | rfl | rfl | hy
  · exact .inr ⟨n4.1, by rw [hs]; omega⟩
  · exact .inr ⟨n4.2, by rw [hs]; omega⟩
  · rcases hor with h | h
    · exact .inl (hF _ (by rw [hg0 _ h]; simp))
    · exact .inr ⟨by omega, by rw [hs]; exact hgl⟩
  · rcases RLay.put_some hy with rfl | rfl | hy
    · exact .inr ⟨n2.1, by rw [hs]; omega⟩
    · exact .inr ⟨n2.2, by rw [hs]; omega⟩
    · exact .inl (hF _ hy)
end Go.Proofs.YtajnfkmkombajacGreatDoor
namespace Go.Proofs.YtajnfkmkombajacGreatDoor
open Go.RowKit Go.Maps

theorem infoRWait : (Tryz.prog.info? 127).map (fun i => (i.zero.map (fun z => z.cells.size), i.size, i.bytes)) = some (some 3, 3, 24) := by kernel_rfl
theorem info_rwait : ∃ i z, Tryz.prog.info? 127 = some i ∧ i.zero = some z ∧ i.size = 3 ∧ i.bytes = 24 ∧ z.cells.size = 3 := by
  have h := infoRWait
  cases hi : Tryz.prog.info? 127 with
  | none => rw [hi] at h; cases h
  | some i =>
    rw [hi] at h
    simp only [Option.map_some, Option.some.injEq, Prod.mk.injEq] at h
    obtain ⟨h1, h2, h3⟩ := h
    cases hz : i.zero with
    | none => rw [hz] at h1; cases h1
    | some z => rw [hz] at h1; simp at h1; exact ⟨i, z, rfl, hz, h2, h3, h1⟩
theorem rleave_no {s : SS} {o k n c : Int} (h : s.is k = false) : s.leaveOp o k n c = (4, s) := by
  unfold SS.is at h; unfold SS.leaveOp
  rw [Option.isSome_eq_false_iff, Option.isNone_iff_eq_none] at h; rw [h]
theorem rleave_cy {s : SS} {o k n c : Int} {q : QS} (h : s.pool k = some q) (hc : cycleC c ≠ 0) : s.leaveOp o k n c = (2, s) := by
  unfold SS.leaveOp; rw [h]; simp only; rw [if_pos hc]
theorem rleave_take {s : SS} {o k n c : Int} {q : QS} (h : s.pool k = some q) (hc : cycleC c = 0) (ht : (q.takeOp o n).1 ≠ 0) : s.leaveOp o k n c = ((q.takeOp o n).1, s) := by
  unfold SS.leaveOp; rw [h]; simp only; rw [if_neg (by simp [hc]), if_pos ht]
theorem rleave_join {s : SS} {o k n c : Int} {q v : QS} (h : s.pool k = some q) (hc : cycleC c = 0) (ht : (q.takeOp o n).1 = 0) (hf : (s.find k c).getD QS.new = v) (hj : (v.joinOp o n).1 ≠ 0) : s.leaveOp o k n c = ((v.joinOp o n).1, s) := by
  unfold SS.leaveOp; rw [h]; simp only; rw [if_neg (by simp [hc]), if_neg (by simp [ht]), hf, if_pos hj]
theorem rleave_ok {s : SS} {o k n c : Int} {q v : QS} (h : s.pool k = some q) (hc : cycleC c = 0) (ht : (q.takeOp o n).1 = 0) (hf : (s.find k c).getD QS.new = v) (hj : (v.joinOp o n).1 = 0) : s.leaveOp o k n c = (0, (s.setP k (q.takeOp o n).2).setW k c (v.joinOp o n).2) := by
  unfold SS.leaveOp; rw [h]; simp only; rw [if_neg (by simp [hc]), if_neg (by simp [ht]), hf, if_neg (by simp [hj])]

set_option maxRecDepth 8000 in
set_option maxHeartbeats 4000000 in
theorem refs_Leave (sb : Nat) (F : Nat → Prop) (s : SS) (w : World) (o k n c : Int) (h : RStAt sb F s w) (hW : s.W.length ≤ 8000) :
    Calls Tryz.prog 70 #[.pointer (some ⟨sb, 0, none⟩), .int .i64 o, .int .i64 k, .int .i64 n, .int .i64 c] w fun e w' => e = .returned (.int .i64 (s.leaveOp o k n c).1) ∧ RStP sb F (s.leaveOp o k n c).2 w w' := by
  have HA := Lib.hid (fun w' => RStP.of_below (w' := w') h)
  obtain ⟨i0, z0, hi0, hz0, hz1, hz2, hz3⟩ := info_rwait
  obtain ⟨L, wv, hL, hF, hlt⟩ := h
  have HI := Lib.hid (refs_Is sb L wv s k w hL)
  by_cases hi : s.is k = true
  · obtain ⟨j, q, rfl, hj, hq, hr, hp⟩ := hL.yes hi
    rw [hi] at HI
    by_cases hcy : 0 ≤ c ∧ c ≤ 1048576
    · have hcz : cycleC c = 0 := cycleC_zero.2 hcy
      have hok := SS.leaveOp_ok hL.ok o (j : Int) n c
      have HCP := Lib.hid (refq_Copy (L.pb j) (L.ps j) (L.pc j) q w (hL.poo j q hr).1)
      have t0 := hL.top.cell 0
      simp only [List.getElem?_cons_zero] at t0
      obtain ⟨cc0, cc1⟩ := hcy
      have HFD := Lib.hid (fun wx (hb : Below w.heap.size w wx) => refs_find sb L wv s (j : Int) c wx (hL.below hb))
      by_cases ht : (q.takeOp o n).1 = 0
      · have HT0 := Lib.hid ht
        rcases s.idx_find (j : Int) c with ⟨i1, i2⟩ | ⟨i, x, i1, i2, i3, i4, i5⟩
        · have hv : (s.find (j : Int) c).getD QS.new = QS.new := by rw [i2]; rfl
          rw [i1] at HFD
          unfold idxV at HFD
          simp only at HFD
          by_cases hjn : (QS.new.joinOp o n).1 = 0
          · have E := Lib.hid (rleave_ok hq hcz ht hv hjn)
            rw [E.out] at hok
            obtain ⟨ao, cap, rfl, R⟩ := hL.rd
            have HADD := Lib.hid (fun (w5 w7 : World) (g b2 c2 m2 b4 c4 m4 : Nat) (wv' : Value) (ob : Obj) hw hp n2 hv n4 nd hg hgo hor hgl ho => hL.leaveAdd hF hlt (w5 := w5) (w7 := w7) (g := g) (b2 := b2) (c2 := c2) (m2 := m2) (b4 := b4) (c4 := c4) (m4 := m4) (c := c) (q1 := (q.takeOp o n).2) (v1 := (QS.new.joinOp o n).2) (wv' := wv') (ob := ob) hj hw hp n2 hv n4 nd i2 hok hg hgo hor hgl ho)
            have HTT := Lib.hid (fun wx (hb : Below w.heap.size w wx) => And.intro ((hL.below hb).top.cell 0) (And.intro ((hL.below hb).ptr hj) ((hL.below hb).row.frozen j)))
            have hne : L.g ≠ sb := fun e => by have := hL.rrow; rw [e, hL.rtop] at this; cases this
            have HAFT := Lib.hid (fun (w5 : World) (hb : Below w.heap.size w w5) (u : Value) => show (w5.setCell ⟨L.g, j, none⟩ u).cell? ⟨sb, 1, none⟩ = some (.slice ao s.W.length cap) ∧ ∀ ob, ((w5.setCell ⟨L.g, j, none⟩ u).alloc ob).ownsRow 0 127 3 (.slice ao s.W.length cap) s.W.length (waitsE L s.W) ∧ ∀ w7, ((w5.setCell ⟨L.g, j, none⟩ u).alloc ob).grownBy w7 (Value.slice ao s.W.length cap).ownBlock → w7.cell? ⟨sb, 1, none⟩ = some (.slice ao s.W.length cap) ∧ w7.frozen? ⟨sb, 1, none⟩ = false by
              have h5 := hL.below hb
              have top6 := h5.top.set_other (p := ⟨L.g, j, none⟩) (by simpa using hne) u
              have wr : ∀ g, (Value.slice ao s.W.length cap).ownBlock = some g → L.role g = .wrow := hL.rwai
              have o6 : (w5.setCell ⟨L.g, j, none⟩ u).ownsRow 0 127 3 (.slice ao s.W.length cap) s.W.length (waitsE L s.W) := ownsRow_other h5.wai (fun g hg => Below.heap_setCell _ _ _ _ (fun e => by have := wr g hg; rw [e, hL.rrow] at this; cases this))
              refine ⟨top6.cell 1, fun ob => ⟨ownsRow_other o6 (fun g hg => Below.heap_alloc _ _ _ (o6.lt g hg).2), fun w7 hg7 => ?_⟩⟩
              have top7 := top6.keep (((Keep.refl (fun y => (Value.slice ao s.W.length cap).ownBlock = some y) _).alloc ob).grown hg7 (fun y hy => .inl hy)) (fun e => by have := wr sb e; rw [hL.rtop] at this; cases this)
              exact ⟨top7.cell 1, top7.frozen 1⟩)
            have HJ0 := Lib.hid hjn
            have ltop := hL.top.lt
            have lrow := hL.row.lt
            clear hL hF hlt hi hq hr ht i1 i2 hv hjn hok R hcz hne
            go_enter Tryz.func70, Tryz.ntmps70
            go_wp2_with fail
            refine HI.out.mono ?_
            rintro e w1 ⟨rfl, rfl⟩
            go_wp2_with fail
            refine HCP.out.mono ?_
            rintro e w1 ⟨sb2, cap2, rfl, hb1, hn2, hp2⟩
            have HP2 := Lib.hid hp2; have HB1 := Lib.hid hb1; clear hp2 hb1
            go_wp2_with fail
            refine (refq_Take w.heap.size sb2 cap2 q o n _ HP2.out).mono ?_
            rintro e w2 ⟨rfl, hP⟩
            rw [HT0.out]
            have HB2 := Lib.hid (show Below w.heap.size w w2 from Keep.after HB1.out hP.1 (fun i hi => by rcases hi with rfl | rfl <;> omega))
            have HP3 := Lib.hid hP.2; clear hP
            go_wp2_with fail
            refine (HFD.out _ HB2.out).mono ?_
            rintro e w3 ⟨rfl, rfl⟩
            go_wp2_with fail
            refine (refq_New _).mono ?_
            rintro e w3 ⟨b4, sb4, rfl, hb3, n4, n5, hp4⟩
            have HB3 := Lib.hid hb3; have HP4 := Lib.hid hp4; clear hb3 hp4
            go_wp2_with fail
            refine (refq_Join b4 sb4 6 QS.new o n _ HP4.out).mono ?_
            rintro e w5 ⟨rfl, hP⟩
            rw [HJ0.out]
            have HB5 := Lib.hid (show Below w2.heap.size w2 w5 from Keep.after HB3.out hP.1 (fun i hi => by rcases hi with rfl | rfl <;> omega))
            have HB6 := Lib.hid (btrans HB2.out HB5.out)
            have HP5 := Lib.hid hP.2; clear hP
            have l2 := HP3.out.lt
            have l5 := HP5.out.lt
            have HP6 := Lib.hid (HP3.out.keep (F := fun _ => False) (Keep.of_below HB5.out) id id)
            have hs1 := HB2.out.size
            obtain ⟨d0, d1, d2⟩ := HTT.out _ HB6.out
            simp only [List.getElem?_cons_zero] at d0
            obtain ⟨d3, d4⟩ := HAFT.out w5 HB6.out (.pointer (some ⟨w.heap.size, 0, none⟩))
            have HD4 := Lib.hid d4; clear d4
            have HN5 := Lib.hid (fun (u : Value) (ob : Obj) => show ((w5.setCell ⟨L.g, j, none⟩ u).alloc ob).heap[w5.heap.size]? = some ob by have := heap_alloc_new (w5.setCell ⟨L.g, j, none⟩ u) ob; simpa using this)
            go_wp2_with (at_builtin; go_loud (refine wpList_append_lies _ rfl (.tmp 88) (.tmp 93) 110 rfl 0 127 i0 z0 3 24 Tryz.underlying110 hi0 hz0 hz1 hz2 hz3 (by decide) (.slice ao s.W.length cap) s.W.length (waitsE L s.W) rfl (HD4.out _).1 ⟨_, 0, none⟩ 1 1 [.int .i64 j, .int .i64 c, .pointer (some ⟨b4, 0, none⟩)] rfl rfl (World.news_of_block (HN5.out _ _)) (by intro u hu; simp at hu; rcases hu with rfl | rfl | rfl <;> rfl) (by decide) (by unfold maxLen; omega) (by omega) (Nat.zero_le _) _ rfl ?_))
            intro g cp w7 ho7 hg7 hor hgl
            obtain ⟨f0, f1⟩ := (HD4.out _).2 w7 hg7
            have hend := HADD.out w5 w7 g w.heap.size sb2 cap2 b4 sb4 6 _ _ HB6.out HP6.out ⟨Nat.le_refl _, hn2⟩ HP5.out ⟨by omega, by omega⟩ (by omega) hg7 rfl (by simpa using hor) hgl ho7
            have HEND := Lib.hid hend
            clear hend ho7 hg7 hor hgl
            go_wp2_with fail
            go_ret
            exact ⟨by rw [E.out]; rfl, by rw [E.out]; exact HEND.out⟩
          · have E := Lib.hid (rleave_join hq hcz ht hv hjn)
            have HJ0 := Lib.hid (show (QS.new.joinOp o n).1 = (QS.new.joinOp o n).1 from rfl)
            have hpos : decide (0 < ((QS.new.joinOp o n).1 : Int)) = true := by simp; omega
            have hpos2 : decide (0 < (QS.new.joinOp o n).1) = true := by simp; omega
            clear hL hF hlt hi hq hr ht i1 i2 hv hjn hok hcz
            generalize hjc : (QS.new.joinOp o n).1 = jc at *
            have HJ1 := Lib.hid hjc; clear hjc HJ0
            go_enter Tryz.func70, Tryz.ntmps70
            go_wp2_with fail
            refine HI.out.mono ?_
            rintro e w1 ⟨rfl, rfl⟩
            go_wp2_with fail
            refine HCP.out.mono ?_
            rintro e w1 ⟨sb2, cap2, rfl, hb1, hn2, hp2⟩
            have HP2 := Lib.hid hp2; have HB1 := Lib.hid hb1; clear hp2 hb1
            go_wp2_with fail
            refine (refq_Take w.heap.size sb2 cap2 q o n _ HP2.out).mono ?_
            rintro e w2 ⟨rfl, hP⟩
            rw [HT0.out]
            have HB2 := Lib.hid (show Below w.heap.size w w2 from Keep.after HB1.out hP.1 (fun i hi => by rcases hi with rfl | rfl <;> omega))
            have HP3 := Lib.hid hP.2; clear hP
            go_wp2_with fail
            refine (HFD.out _ HB2.out).mono ?_
            rintro e w3 ⟨rfl, rfl⟩
            go_wp2_with fail
            refine (refq_New _).mono ?_
            rintro e w3 ⟨b4, sb4, rfl, hb3, n4, n5, hp4⟩
            have HB3 := Lib.hid hb3; have HP4 := Lib.hid hp4; clear hb3 hp4
            go_wp2_with fail
            refine (refq_Join b4 sb4 6 QS.new o n _ HP4.out).mono ?_
            rintro e w5 ⟨rfl, hP⟩
            rw [HJ1.out]
            have HB5 := Lib.hid (show Below w2.heap.size w2 w5 from Keep.after HB3.out hP.1 (fun i hi => by rcases hi with rfl | rfl <;> omega))
            have HB6 := Lib.hid (btrans HB2.out HB5.out)
            have HP5 := Lib.hid hP.2; clear hP
            go_wp2_with fail
            go_ret
            exact ⟨by rw [E.out]; rfl, by rw [E.out]; exact HA.out _ HB6.out⟩
        · have hv : (s.find (j : Int) c).getD QS.new = x.q := by rw [i3]; rfl
          have hil : i < s.W.length := (List.getElem?_eq_some_iff.1 i2).1
          rw [i1] at HFD
          unfold idxV at HFD
          simp only at HFD
          obtain ⟨g, cap, hwv, -, hgl⟩ := hL.wai.form (by omega)
          subst hwv
          have hget := fun j' (hj' : j' < 3) => flatMap_get (enc := waitE L) (C := 3) (fun _ => rfl) s.W.zipIdx i (x, i) (zip_get i2) j' hj'
          have HCW := Lib.hid (fun wx (hb : Below w.heap.size w wx) => show wx.cell? ⟨g, i * 3 + 2, none⟩ = some (.pointer (some ⟨L.pb (i + 3), 0, none⟩)) by
            have := (hL.below hb).wai.cells (g := g) rfl (i * 3 + 2) _ (hget 2 (by decide))
            rw [Addr.add_lit, Nat.zero_add] at this; exact this)
          have HTT := Lib.hid (fun wx (hb : Below w.heap.size w wx) => show wx.cell? ⟨sb, 1, none⟩ = some (.slice (some ⟨g, 0, none⟩) s.W.length cap) from (hL.below hb).top.cell 1)
          have HCQ := Lib.hid (fun wx (hb : Below w.heap.size w wx) => refq_Copy (L.pb (i + 3)) (L.ps (i + 3)) (L.pc (i + 3)) x.q wx ((hL.below hb).poo (i + 3) x.q (by rw [SS.rget_wait, i2]; rfl)).1)
          have hdi : decide ((i : Int) < (s.W.length : Int)) = true := by simp; omega
          have hmx : s.W.length ≤ 9223372036854775807 := by omega
          by_cases hjn : (x.q.joinOp o n).1 = 0
          · have E := Lib.hid (rleave_ok hq hcz ht hv hjn)
            rw [E.out] at hok
            have hin := (fun (w5 : World) (b2 c2 m2 b4 c4 m4 : Nat) hw hp n2 hv n4 nd => hL.leaveIn hF hlt (w5 := w5) (g := g) (b2 := b2) (c2 := c2) (m2 := m2) (b4 := b4) (c4 := c4) (m4 := m4) (c := c) (x := x) (i := i) (q1 := (q.takeOp o n).2) (v1 := (x.q.joinOp o n).2) hj hw hp n2 hv n4 nd i2 i3 i4 i5 rfl hok)
            simp only [i4, i5] at hin
            have HIN := Lib.hid hin; clear hin
            have HT2 := Lib.hid (fun wx (hb : Below w.heap.size w wx) => And.intro ((hL.below hb).top.cell 0) (And.intro ((hL.below hb).ptr hj) ((hL.below hb).row.frozen j)))
            have hne : L.g ≠ sb := fun e => by have := hL.rrow; rw [e, hL.rtop] at this; cases this
            have hne2 : L.g ≠ g := fun e => by have := hL.rwai g rfl; rw [← e, hL.rrow] at this; cases this
            have HAFT := Lib.hid (fun (w5 : World) (hb : Below w.heap.size w w5) (u : Value) => show (w5.setCell ⟨L.g, j, none⟩ u).cell? ⟨sb, 1, none⟩ = some (.slice (some ⟨g, 0, none⟩) s.W.length cap) ∧ (∀ k, k < 3 → (w5.setCell ⟨L.g, j, none⟩ u).cell? ⟨g, i * 3 + k, none⟩ = (waitE L (x, i))[k]?) ∧ ∀ k, (w5.setCell ⟨L.g, j, none⟩ u).frozen? ⟨g, k, none⟩ = false by
              have h5 := hL.below hb
              have top6 := h5.top.set_other (p := ⟨L.g, j, none⟩) (by simpa using hne) u
              have o6 : (w5.setCell ⟨L.g, j, none⟩ u).ownsRow 0 127 3 (.slice (some ⟨g, 0, none⟩) s.W.length cap) s.W.length (waitsE L s.W) := ownsRow_other h5.wai (fun g' hg => Below.heap_setCell _ _ _ _ (fun e => hne2 (by have h2 : g = g' := (by simpa [Value.ownBlock] using hg); exact (h2.trans e).symm)))
              refine ⟨top6.cell 1, fun k hk => ?_, fun k => ?_⟩
              · have hg := hget k hk
                have hk' : k < (waitE L (x, i)).length := hk
                rw [List.getElem?_eq_getElem hk'] at hg ⊢
                have := o6.cells (g := g) rfl (i * 3 + k) _ hg
                rw [Addr.add_lit, Nat.zero_add] at this; exact this
              · rcases o6.2 with ⟨hv, hn⟩ | ⟨g', cap', cur, hv, hb, hg, _⟩
                · cases hv
                · cases hv
                  simp [World.frozen?, hg])
            have HJ0 := Lib.hid hjn
            have ltop := hL.top.lt
            have lrow := hL.row.lt
            clear hL hF hlt hi hq hr ht i1 i2 i3 i4 i5 hv hjn hok hcz hne hne2 hget
            go_enter Tryz.func70, Tryz.ntmps70
            go_wp2_with fail
            refine HI.out.mono ?_
            rintro e w1 ⟨rfl, rfl⟩
            go_wp2_with fail
            refine HCP.out.mono ?_
            rintro e w1 ⟨sb2, cap2, rfl, hb1, hn2, hp2⟩
            have HP2 := Lib.hid hp2; have HB1 := Lib.hid hb1; clear hp2 hb1
            go_wp2_with fail
            refine (refq_Take w.heap.size sb2 cap2 q o n _ HP2.out).mono ?_
            rintro e w2 ⟨rfl, hP⟩
            rw [HT0.out]
            have HB2 := Lib.hid (show Below w.heap.size w w2 from Keep.after HB1.out hP.1 (fun i hi => by rcases hi with rfl | rfl <;> omega))
            have HP3 := Lib.hid hP.2; clear hP
            go_wp2_with fail
            refine (HFD.out _ HB2.out).mono ?_
            rintro e w3 ⟨rfl, rfl⟩
            go_wp2_with fail
            refine (refq_New _).mono ?_
            rintro e w3 ⟨b4, sb4, rfl, hb3, n4, n5, hp4⟩
            have HB3 := Lib.hid hb3; have HP4 := Lib.hid hp4; clear hb3 hp4
            have d1 := HTT.out _ (btrans HB2.out HB3.out)
            have dc := HCW.out _ (btrans HB2.out HB3.out)
            go_wp2_with fail
            refine (HCQ.out _ (btrans HB2.out HB3.out)).mono ?_
            rintro e w4 ⟨sb6, cap6, rfl, hb4, n6, hp6⟩
            have HB4 := Lib.hid hb4; have HP6 := Lib.hid hp6; clear hb4 hp6 d1 dc
            have hz3 := HB3.out.size
            go_wp2_with fail
            refine (refq_Join w3.heap.size sb6 cap6 x.q o n _ HP6.out).mono ?_
            rintro e w5 ⟨rfl, hP⟩
            rw [HJ0.out]
            have HB5 := Lib.hid (show Below w2.heap.size w2 w5 from Keep.after (btrans HB3.out HB4.out) hP.1 (fun i hi => by rcases hi with rfl | rfl <;> omega))
            have HB6 := Lib.hid (btrans HB2.out HB5.out)
            have HP5 := Lib.hid hP.2; clear hP
            have l2 := HP3.out.lt
            have l5 := HP5.out.lt
            have hs1 := HB2.out.size
            have hz4 := HB4.out.size
            have HP7 := Lib.hid (HP3.out.keep (F := fun _ => False) (Keep.of_below HB5.out) id id)
            obtain ⟨d0, d1, d2⟩ := HT2.out _ HB6.out
            simp only [List.getElem?_cons_zero] at d0
            obtain ⟨d3, d4, d5⟩ := HAFT.out w5 HB6.out (.pointer (some ⟨w.heap.size, 0, none⟩))
            have f0 := d4 0 (by decide); have f1 := d4 1 (by decide); have f2 := d4 2 (by decide)
            have g0 := d5 (i * 3); have g1 := d5 (i * 3 + 1); have g2 := d5 (i * 3 + 2)
            simp only [waitE, List.getElem?_cons_zero, List.getElem?_cons_succ, Nat.add_zero] at f0 f1 f2
            have hend := HIN.out w5 w.heap.size sb2 cap2 w3.heap.size sb6 cap6 HB6.out HP7.out ⟨Nat.le_refl _, hn2⟩ HP5.out ⟨by omega, by omega⟩ (by omega)
            have HEND := Lib.hid hend
            clear hend d4 d5
            go_wp2_with fail
            go_ret
            exact ⟨by rw [E.out]; rfl, by rw [E.out]; exact HEND.out⟩
          · have E := Lib.hid (rleave_join hq hcz ht hv hjn)
            have hpos : decide (0 < ((x.q.joinOp o n).1 : Int)) = true := by simp; omega
            have hpos2 : decide (0 < (x.q.joinOp o n).1) = true := by simp; omega
            clear hL hF hlt hi hq hr ht i1 i2 i3 i4 i5 hv hjn hok hcz hget
            generalize hjc : (x.q.joinOp o n).1 = jc at *
            have HJ1 := Lib.hid hjc; clear hjc
            go_enter Tryz.func70, Tryz.ntmps70
            go_wp2_with fail
            refine HI.out.mono ?_
            rintro e w1 ⟨rfl, rfl⟩
            go_wp2_with fail
            refine HCP.out.mono ?_
            rintro e w1 ⟨sb2, cap2, rfl, hb1, hn2, hp2⟩
            have HP2 := Lib.hid hp2; have HB1 := Lib.hid hb1; clear hp2 hb1
            go_wp2_with fail
            refine (refq_Take w.heap.size sb2 cap2 q o n _ HP2.out).mono ?_
            rintro e w2 ⟨rfl, hP⟩
            rw [HT0.out]
            have HB2 := Lib.hid (show Below w.heap.size w w2 from Keep.after HB1.out hP.1 (fun i hi => by rcases hi with rfl | rfl <;> omega))
            have HP3 := Lib.hid hP.2; clear hP
            go_wp2_with fail
            refine (HFD.out _ HB2.out).mono ?_
            rintro e w3 ⟨rfl, rfl⟩
            go_wp2_with fail
            refine (refq_New _).mono ?_
            rintro e w3 ⟨b4, sb4, rfl, hb3, n4, n5, hp4⟩
            have HB3 := Lib.hid hb3; have HP4 := Lib.hid hp4; clear hb3 hp4
            have d1 := HTT.out _ (btrans HB2.out HB3.out)
            have dc := HCW.out _ (btrans HB2.out HB3.out)
            go_wp2_with fail
            refine (HCQ.out _ (btrans HB2.out HB3.out)).mono ?_
            rintro e w4 ⟨sb6, cap6, rfl, hb4, n6, hp6⟩
            have HB4 := Lib.hid hb4; have HP6 := Lib.hid hp6; clear hb4 hp6 d1 dc
            have hz3 := HB3.out.size
            go_wp2_with fail
            refine (refq_Join w3.heap.size sb6 cap6 x.q o n _ HP6.out).mono ?_
            rintro e w5 ⟨rfl, hP⟩
            rw [HJ1.out]
            have HB5 := Lib.hid (show Below w2.heap.size w2 w5 from Keep.after (btrans HB3.out HB4.out) hP.1 (fun i hi => by rcases hi with rfl | rfl <;> omega))
            have HB6 := Lib.hid (btrans HB2.out HB5.out)
            have HP5 := Lib.hid hP.2; clear hP
            go_wp2_with fail
            go_ret
            exact ⟨by rw [E.out]; rfl, by rw [E.out]; exact HA.out _ HB6.out⟩
      · have E := Lib.hid (rleave_take hq hcz ht)
        have hpos : decide (0 < ((q.takeOp o n).1 : Int)) = true := by simp; omega
        have hpos2 : decide (0 < (q.takeOp o n).1) = true := by simp; omega
        clear hL hF hlt hi hq hr ht hok hcz HFD
        generalize hjc : (q.takeOp o n).1 = jc at *
        have HT0 := Lib.hid hjc; clear hjc
        go_enter Tryz.func70, Tryz.ntmps70
        go_wp2_with fail
        refine HI.out.mono ?_
        rintro e w1 ⟨rfl, rfl⟩
        go_wp2_with fail
        refine HCP.out.mono ?_
        rintro e w1 ⟨sb2, cap2, rfl, hb1, hn2, hp2⟩
        have HP2 := Lib.hid hp2; have HB1 := Lib.hid hb1; clear hp2 hb1
        go_wp2_with fail
        refine (refq_Take w.heap.size sb2 cap2 q o n _ HP2.out).mono ?_
        rintro e w2 ⟨rfl, hP⟩
        rw [HT0.out]
        have HB2 := Lib.hid (show Below w.heap.size w w2 from Keep.after HB1.out hP.1 (fun i hi => by rcases hi with rfl | rfl <;> omega))
        have HP3 := Lib.hid hP.2; clear hP
        go_wp2_with fail
        go_ret
        exact ⟨by rw [E.out]; rfl, by rw [E.out]; exact HA.out _ HB2.out⟩
    · have E := Lib.hid (rleave_cy (o := o) (n := n) hq (fun h => hcy (cycleC_zero.1 h)))
      have hcases : c < 0 ∨ (0 ≤ c ∧ 1048576 < c) := by omega
      clear hL hF hlt hi hq hr hcy
      rcases hcases with h1 | ⟨h1, h2⟩
      all_goals
        go_enter Tryz.func70, Tryz.ntmps70
        go_wp2_with fail
        refine HI.out.mono ?_
        rintro e w1 ⟨rfl, rfl⟩
        go_wp2_with fail
        go_ret
        exact ⟨by rw [E.out]; rfl, by rw [E.out]; exact HA.out _ (Below.refl _ _)⟩
  · have hi' : s.is k = false := by simpa using hi
    have E := Lib.hid (rleave_no (o := o) (n := n) (c := c) hi')
    rw [hi'] at HI
    clear hL hF hlt hi hi'
    go_enter Tryz.func70, Tryz.ntmps70
    go_wp2_with fail
    refine HI.out.mono ?_
    rintro e w1 ⟨rfl, rfl⟩
    go_wp2_with fail
    go_ret
    exact ⟨by rw [E.out]; rfl, by rw [E.out]; exact HA.out _ (Below.refl _ _)⟩
end Go.Proofs.YtajnfkmkombajacGreatDoor
namespace Go.Proofs.YtajnfkmkombajacGreatDoor
open Go.RowKit Go.Maps

/-- baker k's pool is another one now, and so is (or may be) what waits since cycle c -/
theorem StakesL.left {sb n : Nat} {F : Nat → Prop} {L : Lay} {s : SS} {w W : World} (h : StakesL sb L n s w) (hF : ∀ b, L.role b ≠ .none → F b) (hlt : ∀ b, F b → b < w.heap.size) {k : Nat} (hk : k < 3) (hi : s.is k = true) {q q' v' : QS} (hq : s.get k none = some q) {c : Int}
    (hs : ((s.setP k q').setW k c v').Ok) {m pb mb wb wx : Nat} (hm : n ≤ m)
    (hK : Keep (fun b => b = L.bb k ∨ b = L.wm k ∨ L.role b = .poo k (some c) ∨ L.role b = .map k (some c)) w W)
    (hr : RowAt (L.bb k) 122 [.pointer (some ⟨pb, 0, none⟩), .map (some (L.wm k))] W)
    (hD : ∃ D : DataW Unit, W.ownsMap Tryz.prog 3 blkElem (L.wm k) m D ∧ ∀ c' : Int, D.atKey (.int .i64 c') .nil = if c' = c then .lit (.int .i64 wb) else waitD L k c' (s.find k c'))
    (hp : PoolAt pb mb m q' W) (hv : PoolAt wb wx m v' W) (n1 : w.heap.size ≤ pb) (n2 : w.heap.size ≤ mb) (d1 : wb ≠ pb) (d2 : wb ≠ mb) (d3 : wx ≠ pb) (d4 : wx ≠ mb)
    (r1 : (w.heap.size ≤ wb ∧ w.heap.size ≤ wx) ∨ (wb = L.pb k (some c) ∧ wx = L.pm k (some c) ∧ (s.find k c).isSome = true)) :
    StakesP sb F m ((s.setP k q').setW k c v') w W := by
  have hltr : ∀ x, L.role x ≠ .none → x < w.heap.size := fun x hx => hlt x (hF x hx)
  obtain ⟨hp0, rp0, rm0⟩ := h.poo k none q hk hq
  obtain ⟨hb0, rb0⟩ := h.bak k hk hi
  obtain ⟨rw0, D0, hD0, hD1⟩ := h.wai k hk hi
  have d5 := hp.ne
  have d6 := hv.ne
  have rwb : (w.heap.size ≤ wb ∧ w.heap.size ≤ wx) ∨ (L.role wb = .poo k (some c) ∧ L.role wx = .map k (some c)) := by
    rcases r1 with r1 | ⟨rfl, rfl, r⟩
    · exact .inl r1
    · obtain ⟨v, hv'⟩ := Option.isSome_iff_exists.1 r
      obtain ⟨_, a, b⟩ := h.poo k (some c) v hk hv'
      exact .inr ⟨a, b⟩
  have hls := hp.lt
  have hlv := hv.lt
  have hne : ∀ x r, L.role x = r → r ≠ .none → r ≠ .poo k (some c) → r ≠ .map k (some c) → x ≠ pb ∧ x ≠ mb ∧ x ≠ wb ∧ x ≠ wx := by
    intro x r hx h0 h1 h2
    have hl := hltr x (by rw [hx]; exact h0)
    refine ⟨by omega, by omega, ?_, ?_⟩
    · rintro rfl
      rcases rwb with ⟨a, _⟩ | ⟨a, _⟩
      · omega
      · exact h1 (hx.symm.trans a)
    · rintro rfl
      rcases rwb with ⟨_, a⟩ | ⟨_, a⟩
      · omega
      · exact h2 (hx.symm.trans a)
  let role' : Nat → Role := fun x => if x = pb then .poo k none else if x = mb then .map k none else if x = wb then .poo k (some c) else if x = wx then .map k (some c) else if x = L.pb k none ∨ x = L.pm k none then .none else L.role x
  have hrole : ∀ x r, L.role x = r → r ≠ .none → r ≠ .poo k none → r ≠ .map k none → r ≠ .poo k (some c) → r ≠ .map k (some c) → role' x = r := by
    intro x r hx h0 h1 h2 h3 h4
    obtain ⟨e1, e2, e3, e4⟩ := hne x r hx h0 h3 h4
    show (if x = pb then Role.poo k none else if x = mb then .map k none else if x = wb then .poo k (some c) else if x = wx then .map k (some c) else if x = L.pb k none ∨ x = L.pm k none then .none else L.role x) = r
    rw [if_neg e1, if_neg e2, if_neg e3, if_neg e4, if_neg, hx]
    rintro (rfl | rfl)
    · exact h1 (hx.symm.trans rp0)
    · exact h2 (hx.symm.trans rm0)
  have hnF : ∀ x r, L.role x = r → r ≠ .none → r ≠ .bak k → r ≠ .wai k → r ≠ .poo k (some c) → r ≠ .map k (some c) → ¬ (x = L.bb k ∨ x = L.wm k ∨ L.role x = .poo k (some c) ∨ L.role x = .map k (some c)) := by
    rintro x r hx h0 h1 h2 h3 h4 (rfl | rfl | e | e)
    · exact h1 (hx.symm.trans rb0)
    · exact h2 (hx.symm.trans rw0)
    · exact h3 (hx.symm.trans e)
    · exact h4 (hx.symm.trans e)
  have hfind : ∀ (j : Nat) (c' : Int), ((s.setP k q').setW k c v').find j c' = if (j : Int) = k ∧ c' = c then some v' else s.find j c' := fun j c' => by
    rw [SS.find_setW]; rfl
  have hgetP : ∀ j : Nat, j < 3 → ((s.setP k q').setW k c v').get j none = if j = k then some q' else s.get j none := fun j hj => by
    show (s.setP k q').P.getD j none = if j = k then some q' else s.P.getD j none
    rw [← SS.pool_nat, ← SS.pool_nat, SS.pool_setP h.ok (by omega) (by omega)]
    by_cases e : j = k
    · rw [if_pos e, if_pos (by omega)]
    · rw [if_neg e, if_neg (by omega)]
  have his : ∀ j : Nat, j < 3 → ((s.setP k q').setW k c v').is j = s.is j := fun j hj => by
    rw [SS.is_pool, SS.is_pool, hgetP j hj]
    split
    · next e => subst e; rw [← SS.is_pool, hi]; rfl
    · rfl
  refine ⟨hK.mono (fun b hb => ?_), ⟨L.bb, L.wm, fun j oc => if j = k ∧ oc = none then pb else if j = k ∧ oc = some c then wb else L.pb j oc, fun j oc => if j = k ∧ oc = none then mb else if j = k ∧ oc = some c then wx else L.pm j oc, role'⟩, ⟨hs, ?_, ?_, fun j hj hij => ?_, fun j hj hij => ?_, fun j oc r hj hg => ?_⟩, fun b hb => ?_, grownF_lt hlt hK.size⟩
  · apply hF
    rcases hb with rfl | rfl | e | e
    · rw [rb0]; simp
    · rw [rw0]; simp
    · rw [e]; simp
    · rw [e]; simp
  · have e : ∀ j, j < 3 → bptr ((s.setP k q').setW k c v') ⟨L.bb, L.wm, fun j oc => if j = k ∧ oc = none then pb else if j = k ∧ oc = some c then wb else L.pb j oc, fun j oc => if j = k ∧ oc = none then mb else if j = k ∧ oc = some c then wx else L.pm j oc, role'⟩ j = bptr s L j := fun j hj => by
      unfold bptr; rw [his j hj]
    rw [e 0 (by omega), e 1 (by omega), e 2 (by omega)]
    exact h.top.keep hK (hnF _ _ h.rtop (by simp) (by simp) (by simp) (by simp) (by simp))
  · exact hrole _ _ h.rtop (by simp) (by simp) (by simp) (by simp) (by simp)
  · rw [his j hj] at hij
    obtain ⟨h1, h2⟩ := h.bak j hj hij
    refine ⟨?_, hrole _ _ h2 (by simp) (by simp) (by simp) (by simp) (by simp)⟩
    by_cases hjk : j = k
    · subst hjk; simp only [and_self, if_true]; exact hr
    · simp only [hjk, false_and, if_false]
      exact h1.keep hK (hnF _ _ h2 (by simp) (by simp [hjk]) (by simp) (by simp) (by simp))
  · rw [his j hj] at hij
    obtain ⟨h1, D, h2, h3⟩ := h.wai j hj hij
    refine ⟨hrole _ _ h1 (by simp) (by simp) (by simp) (by simp) (by simp), ?_⟩
    by_cases hjk : j = k
    · subst hjk
      obtain ⟨D', hD', hD''⟩ := hD
      refine ⟨D', hD', fun c' => ?_⟩
      rw [hD'' c', hfind j c']
      by_cases hc : c' = c
      · subst hc; rw [if_pos rfl, if_pos ⟨rfl, rfl⟩]; simp [waitD]
      · rw [if_neg hc, if_neg (by simp [hc])]
        unfold waitD; simp [hc]
    · obtain ⟨es, clock, e1, e2⟩ := h2.mono hm
      refine ⟨D, ⟨es, clock, hK.heap e1 (hnF _ _ h1 (by simp) (by simp) (by simp [hjk]) (by simp) (by simp)), e2⟩, fun c' => ?_⟩
      rw [h3 c', hfind j c', if_neg (by rintro ⟨e, _⟩; exact hjk (by omega))]
      unfold waitD; simp [hjk]
  · cases oc with
    | none =>
      rw [hgetP j hj] at hg
      by_cases hjk : j = k
      · subst hjk; rw [if_pos rfl] at hg; cases hg
        simp only [and_self, if_true]
        refine ⟨hp, ?_, ?_⟩
        · show (if pb = pb then Role.poo j none else _) = _; rw [if_pos rfl]
        · show (if mb = pb then Role.poo j none else if mb = mb then .map j none else _) = _; rw [if_neg (fun e => d5 e.symm), if_pos rfl]
      · rw [if_neg hjk] at hg
        obtain ⟨h1, h2, h3⟩ := h.poo j none r hj hg
        simp only [hjk, false_and, if_false]
        exact ⟨(h1.mono hm).keep hK (hnF _ _ h2 (by simp) (by simp) (by simp) (by simp) (by simp)) (hnF _ _ h3 (by simp) (by simp) (by simp) (by simp) (by simp)), hrole _ _ h2 (by simp) (by simp [hjk]) (by simp) (by simp) (by simp), hrole _ _ h3 (by simp) (by simp) (by simp [hjk]) (by simp) (by simp)⟩
    | some c' =>
      have hg' : ((s.setP k q').setW k c v').find j c' = some r := hg
      rw [hfind j c'] at hg'
      by_cases hjk : j = k ∧ c' = c
      · obtain ⟨rfl, rfl⟩ := hjk
        rw [if_pos ⟨rfl, rfl⟩] at hg'; cases hg'
        simp only [and_self, if_true, reduceCtorEq, and_false, if_false]
        refine ⟨hv, ?_, ?_⟩
        · show (if wb = pb then Role.poo j none else if wb = mb then .map j none else if wb = wb then .poo j (some c') else _) = _; rw [if_neg d1, if_neg d2, if_pos rfl]
        · show (if wx = pb then Role.poo j none else if wx = mb then .map j none else if wx = wb then .poo j (some c') else if wx = wx then .map j (some c') else _) = _; rw [if_neg d3, if_neg d4, if_neg (fun e => d6 e.symm), if_pos rfl]
      · rw [if_neg (by rintro ⟨e, e'⟩; exact hjk ⟨by omega, e'⟩)] at hg'
        obtain ⟨h1, h2, h3⟩ := h.poo j (some c') r hj hg'
        have ne1 : Role.poo j (some c') ≠ .poo k (some c) := by intro e; injection e with e1 e2; injection e2 with e2; exact hjk ⟨e1, e2⟩
        have ne2 : Role.map j (some c') ≠ .map k (some c) := by intro e; injection e with e1 e2; injection e2 with e2; exact hjk ⟨e1, e2⟩
        have e0 : ¬ (j = k ∧ some c' = some c) := by rintro ⟨e1, e2⟩; injection e2 with e2; exact hjk ⟨e1, e2⟩
        simp only [reduceCtorEq, and_false, if_false, e0]
        exact ⟨(h1.mono hm).keep hK (hnF _ _ h2 (by simp) (by simp) (by simp) ne1 (by simp)) (hnF _ _ h3 (by simp) (by simp) (by simp) (by simp) ne2), hrole _ _ h2 (by simp) (by simp) (by simp) ne1 (by simp), hrole _ _ h3 (by simp) (by simp) (by simp) (by simp) ne2⟩
  · have hb : role' b ≠ .none := hb
    by_cases hold : L.role b = .none
    · right
      have hx : b = pb ∨ b = mb ∨ b = wb ∨ b = wx := by
        apply Classical.byContradiction
        intro hn
        simp only [not_or] at hn
        obtain ⟨q1, q2, q3, q4⟩ := hn
        apply hb
        show (if b = pb then Role.poo k none else if b = mb then .map k none else if b = wb then .poo k (some c) else if b = wx then .map k (some c) else if b = L.pb k none ∨ b = L.pm k none then .none else L.role b) = .none
        rw [if_neg q1, if_neg q2, if_neg q3, if_neg q4, hold]; split <;> rfl
      rcases hx with rfl | rfl | rfl | rfl
      · omega
      · omega
      · rcases rwb with ⟨a, _⟩ | ⟨a, _⟩
        · omega
        · rw [hold] at a; cases a
      · rcases rwb with ⟨_, a⟩ | ⟨_, a⟩
        · omega
        · rw [hold] at a; cases a
    · exact .inl (hF b hold)
end Go.Proofs.YtajnfkmkombajacGreatDoor
