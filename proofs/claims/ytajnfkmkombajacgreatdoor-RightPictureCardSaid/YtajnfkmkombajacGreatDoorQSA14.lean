/-
  append of one row onto another, both slices of the call's own; where the new slice lies; rows that read as data. No program in sight.
  Package court in memory: Accuse, Due.
  Evidence held against evidence.
  The document's court in memory: Accuse.
-/
import Derived.Test.YtajnfkmkombajacGreatDoorQSA01
import Derived.Test.YtajnfkmkombajacGreatDoorQSA13
import Derived.Maps.AppendAt
import Derived.Laws.AppendOwnNone
import Derived.Test.YtajnfkmkombajacGreatDoorQSA03
import Derived.Laws.StructEq
import Derived.Test.YtajnfkmkombajacGreatDoorQSA11
import Derived.Deep.RegionLaw
import Derived.Deep.AppendLies
import Derived.Deep.LoopGhost
import Derived.Deep.QuietTactic
import Derived.BigQuiet
set_option linter.unusedVariables false
set_option linter.unusedSimpArgs false
set_option linter.unusedVariables false
namespace Go.Proofs.YtajnfkmkombajacGreatDoor
open Go.RowKit

theorem ownsRow_other {base e size n : Nat} {v : Value} {xs : List Value} {w w' : World} (h : w.ownsRow base e size v n xs) (hk : ∀ g, v.ownBlock = some g → w'.heap[g]? = w.heap[g]?) : w'.ownsRow base e size v n xs := by
  obtain ⟨l1, l2⟩ := h
  refine ⟨l1, ?_⟩
  rcases l2 with l2 | ⟨g, cap, cur, hv, hb, hg, r⟩
  · exact .inl l2
  · exact .inr ⟨g, cap, cur, hv, hb, by rw [hk g (by rw [hv]; rfl)]; exact hg, r⟩

theorem run_append_row {P : Program} (w : World) (t ty : TypeId) (base : Nat) (e : TypeId) (i : TypeInfo) (z : Value) (size bytes : Nat) (ht : P.underlying t = some (.slice e)) (hi : P.info? e = some i) (hz : i.zero = some z)
    (hsize : i.size = size) (hby : i.bytes = bytes) (hzs : z.cells.size = size) (hsz : 0 < size) (v : Value) (n : Nat) (xs : List Value) (hown : w.ownsRow base e size v n xs)
    (b2 : Nat) (xv : Value) (m : Nat) (news : List Value) (hx : w.ownsRow b2 e size xv m news) (h1 : ∀ u ∈ news, u.oneCell' = true) (h63 : n + m ≤ maxLen) (hbytes : (n + m) * bytes ≤ 140737488355328) (hbase : base ≤ w.heap.size) :
    ∃ v' w', (Builtin.append_ #[t, t] ty #[v, xv]).run P w = .ok v' w' ∧ w'.ownsRow base e size v' (n + m) (xs ++ news) ∧ w.grownBy w' v.ownBlock ∧ (v'.ownBlock = v.ownBlock ∨ v'.ownBlock = some w.heap.size) := by
  rcases hx.2 with ⟨rfl, rfl⟩ | ⟨g, cap, cur, rfl, _⟩
  · have hn : news = [] := List.eq_nil_of_length_eq_zero (by simpa using hx.1)
    subst hn
    exact ⟨v, w, run_append_owned_none (P := P) (w := w) base t ty e i size ht hi v n xs hown, by simpa using hown, ⟨rfl, rfl, rfl, Nat.le_refl _, fun _ _ _ => rfl⟩, .inl rfl⟩
  · obtain ⟨v', w', hr, a, b, _, c⟩ := run_append_own_at (P := P) w base t ty e i z size bytes ht hi hz hsize hby hzs hsz v n xs hown ⟨g, 0, none⟩ m cap news hx.1 (hx.cells (g := g) rfl) h1 h63 hbytes hbase
    exact ⟨v', w', hr, a, b, c⟩

theorem wpList_append_row {P : Program} (w : World) {ops : Array Oper} {rest : List Oper} {o : Oper} {a : Act} {Q : Exit → Act → World → Prop} (hgd : o.guard = none) (s x : Operand) (t : TypeId)
    (ho : o.op = .call { callee := .builtin .append, args := #[s, x], argTypes := #[t, t] })
    (base : Nat) (e : TypeId) (i : TypeInfo) (z : Value) (size bytes : Nat) (ht : P.underlying t = some (.slice e)) (hi : P.info? e = some i) (hz : i.zero = some z)
    (hsize : i.size = size) (hby : i.bytes = bytes) (hzs : z.cells.size = size) (hsz : 0 < size) (v : Value) (n : Nat) (xs : List Value) (hs : a.eval s = v) (hown : w.ownsRow base e size v n xs)
    (b2 : Nat) (xv : Value) (m : Nat) (news : List Value) (hx : a.eval x = xv) (hxo : w.ownsRow b2 e size xv m news) (h1 : ∀ u ∈ news, u.oneCell' = true) (h63 : n + m ≤ maxLen) (hbytes : (n + m) * bytes ≤ 140737488355328) (hbase : base ≤ w.heap.size)
    (h : ∀ v' w', w'.ownsRow base e size v' (n + m) (xs ++ news) → w.grownBy w' v.ownBlock → (v'.ownBlock = v.ownBlock ∨ v'.ownBlock = some w.heap.size) → wpList P ops Q rest (a.put o.dst v') w') : wpList P ops Q (o :: rest) a w := by
  refine wpList_plain hgd fun K hK => ?_
  obtain ⟨v', w', hr, h2, h3, h4⟩ := run_append_row (P := P) w t o.type base e i z size bytes ht hi hz hsize hby hzs hsz v n xs hown b2 xv m news hxo h1 h63 hbytes hbase
  unfold Oper.wp execOp
  simp only [ho, resolve, invoke, builtin, Sem.run_bind, Sem.run_pure, Result.andThen_ok, List.map_toArray, List.map_cons, List.map_nil, hs, hx, hr]
  exact hK _ _ (h v' w' h2 h3 h4)

/-- at a step of a region that draws its order: whatever is appended, be it nothing -/
theorem step_append_at {P : Program} {ops : Array Oper} {o : Oper} {a : Act} {w : World} {K : Act → World → Prop} {Q : Exit → Act → World → Prop} {E : Prop} (hgd : o.guard = none) (s x : Operand) (t : TypeId)
    (ho : o.op = .call { callee := .builtin .append, args := #[s, x], argTypes := #[t, t] })
    (base : Nat) (e : TypeId) (i : TypeInfo) (z : Value) (size bytes : Nat) (ht : P.underlying t = some (.slice e)) (hi : P.info? e = some i) (hz : i.zero = some z)
    (hsize : i.size = size) (hby : i.bytes = bytes) (hzs : z.cells.size = size) (hsz : 0 < size) (v : Value) (n : Nat) (xs : List Value) (hs : a.eval s = v) (hown : w.ownsRow base e size v n xs)
    (ad : Addr) (m c : Nat) (news : List Value) (hx : a.eval x = .slice (some ad) m c) (hl : news.length = m * size) (hnews : ∀ j u, news[j]? = some u → w.cell? (ad.add j) = some u) (h1 : ∀ u ∈ news, u.oneCell' = true)
    (h63 : n + m ≤ maxLen) (hbytes : (n + m) * bytes ≤ 140737488355328) (hbase : base ≤ w.heap.size)
    (h : ∀ v' w', w'.ownsRow base e size v' (n + m) (xs ++ news) → w.grownBy w' v.ownBlock → (v'.ownBlock = v.ownBlock ∨ v'.ownBlock = some w.heap.size) → K (a.put o.dst v') w') :
    if Region.wanted o (yielded ops a.tmps) = true then Oper.wp P o a w K Q else E := by
  have hw : Region.wanted o (yielded ops a.tmps) = true := by simp [Region.wanted, hgd]
  rw [if_pos hw]
  obtain ⟨v', w', hr, h2, h3, _, h4⟩ := run_append_own_at (P := P) w base t o.type e i z size bytes ht hi hz hsize hby hzs hsz v n xs hown ad m c news hl hnews h1 h63 hbytes hbase
  unfold Oper.wp execOp
  simp only [ho, resolve, invoke, builtin, Sem.run_bind, Sem.run_pure, Result.andThen_ok, List.map_toArray, List.map_cons, List.map_nil, hs, hx, hr]
  exact h v' w' h2 h3 h4

section
variable {α : Type} {enc : α → List Value} {C : Nat}
theorem flatMap_get (hC : ∀ x, (enc x).length = C) : ∀ (l : List α) (i : Nat) (x : α), l[i]? = some x → ∀ j, j < C → (l.flatMap enc)[i * C + j]? = (enc x)[j]?
  | [], i, x, h, _, _ => by simp at h
  | y :: l, 0, x, h, j, hj => by
    simp at h; subst h
    rw [List.flatMap_cons, Nat.zero_mul, Nat.zero_add, List.getElem?_append_left (by rw [hC]; exact hj)]
  | y :: l, i + 1, x, h, j, hj => by
    rw [List.flatMap_cons, List.getElem?_append_right (by rw [hC, Nat.succ_mul]; omega), hC, show (i + 1) * C + j - C = i * C + j by rw [Nat.succ_mul]; omega]
    exact flatMap_get hC l i x (by simpa using h) j hj
theorem flatMap_len (hC : ∀ x, (enc x).length = C) : ∀ l : List α, (l.flatMap enc).length = l.length * C
  | [] => by simp
  | y :: l => by rw [List.flatMap_cons, List.length_append, hC, flatMap_len hC l, List.length_cons, Nat.succ_mul]; omega
/-- a row of the call's own that holds data reads as the data -/
theorem RdR.of_row {w : World} {base e : Nat} {ao : Option Addr} {len cap : Nat} {l : List α} (hC : ∀ x, (enc x).length = C) (h0 : 0 < C) (h : w.ownsRow base e C (.slice ao len cap) len (l.flatMap enc)) : RdR enc C w ao len cap l := by
  have hl : l.length = len := by
    have := h.1; rw [flatMap_len hC] at this
    exact Nat.eq_of_mul_eq_mul_right h0 this
  rcases h.2 with ⟨hv, hn⟩ | ⟨g, cap', cur, hv, hb, hg, hnc, hcm, _, _⟩
  · cases hv
    have : l = [] := List.eq_nil_of_length_eq_zero (by omega)
    subst this
    exact RdR.nil _ _ _
  · cases hv
    refine ⟨hl, hnc, hcm, fun h => (by cases h), fun i x hx => ⟨g, 0, rfl, lt_of_block hg, fun j hj => ?_⟩⟩
    have hcell := flatMap_get hC l i x hx j hj
    have hj' : j < (enc x).length := by rw [hC]; exact hj
    rw [List.getElem?_eq_getElem hj'] at hcell ⊢
    have := h.cells (g := g) rfl _ _ hcell
    rw [Addr.add_lit, Nat.zero_add] at this
    rw [Nat.zero_add]; exact this
end
end Go.Proofs.YtajnfkmkombajacGreatDoor
namespace Go.Proofs.YtajnfkmkombajacGreatDoor
open Go.RowKit Go.Maps

theorem KS.code_of {k : KS} {o : Int} {e : EV} {cy : Int} (h1 : ownB o = true) (h2 : 0 ≤ e.b ∧ e.b < 3) (h3 : 0 ≤ e.n) (h4 : 0 ≤ cy ∧ cy ≤ 1048576) : k.code o e cy = if cy < e.c ∨ e.c < cy - 2 ∨ e.c < 0 then 10 else if k.has e then 5 else 0 := by
  unfold KS.code KS.has; rw [if_neg (by simp [h1]; omega)]
theorem KS.acc_bad {k : KS} {o : Int} {e : EV} {cy : Int} {c : Nat} (h : k.code o e cy = c) (hc : c ≠ 0) : k.accuse o e cy = (c, k) := by unfold KS.accuse; rw [if_pos (by rw [h]; exact hc), h]
theorem KS.acc_ok {k : KS} {o : Int} {e : EV} {cy : Int} (h : k.code o e cy = 0) : k.accuse o e cy = (0, ⟨k.L ++ [(o, e)], k.done⟩) := by unfold KS.accuse; rw [if_neg (by simp [h])]
theorem KS.bound {k : KS} {o : Int} {e : EV} {cy : Int} (h : o < 0 ∨ 6 ≤ o ∨ e.b < 0 ∨ 3 ≤ e.b ∨ e.n < 0 ∨ cy < 0 ∨ 1048576 < cy) : k.code o e cy = 2 := by
  unfold KS.code; rw [if_pos]
  rcases h with h | h | h | h | h | h | h
  · exact .inl (by cases ho : ownB o with | false => rfl | true => have := ownB_iff.1 ho; omega)
  · exact .inl (by cases ho : ownB o with | false => rfl | true => have := ownB_iff.1 ho; omega)
  all_goals simp [h]
theorem KS.has_add (k : KS) (o : Int) (e f : EV) : (KS.mk (k.L ++ [(o, e)]) k.done).has f = (k.has f || decide (e = f)) := by simp [KS.has]
theorem KS.due_add {k : KS} (h : k.done ≤ k.L.length) (o : Int) (e : EV) : (KS.mk (k.L ++ [(o, e)]) k.done).due = k.due ++ [(o, e)] := by
  unfold KS.due; simp only; rw [List.drop_append_of_le_length h]

/-- the court has one case more -/
theorem CourtL.added {kb mb n : Nat} {dv dv' : Value} {k : KS} {o : Int} {e : EV} {w w1 w2 : World} {D : DataW Unit} (h : CourtL kb mb dv n k w) (he : e.wf)
    (hD : w.ownsMap Tryz.prog 46 (plainElem Tryz.prog 4) mb n D) (hA : ∀ f : EV, f.wf → D.atKey (evK f) (.lit (.bool false)) = .lit (.bool (k.has f)))
    (hm : w2.ownsMap Tryz.prog 46 (plainElem Tryz.prog 4) mb (n + 1) (D.put (evK e) (.lit (.bool true)))) (hr : RowAt kb 186 [.map (some mb), dv'] w2)
    (hd : w2.ownsRow 0 195 4 dv' (k.due.length + 1) (casesE k.due ++ caseE (o, e))) (hk : dv'.ownBlock ≠ some kb) (hk2 : dv'.ownBlock ≠ some mb) : CourtL kb mb dv' (n + 1) ⟨k.L ++ [(o, e)], k.done⟩ w2 := by
  refine ⟨hr, h.ne, ⟨_, hm, fun f hf => ?_⟩, ?_, hk, hk2, fun x hx => ?_, by have := h.done; simp; omega⟩
  · rw [KS.has_add]
    by_cases hef : e = f
    · subst hef
      rw [Maps.atKey_put_same hD.isMap (keyE.key (keyOf_ev he))]; simp
    · rw [Maps.atKey_put_other (fun e' => hef (evK_inj he hf e'.symm)), hA f hf]; simp [hef]
  · rw [KS.due_add h.done, casesE_snoc, List.length_append]; exact hd
  · rcases List.mem_append.1 hx with hx | hx
    · exact h.wf x hx
    · obtain rfl := List.mem_singleton.1 hx; exact he

theorem KS.has_wf (k : KS) (e : EV) : (k.L.any (fun x => decide (x.2 = e))) = k.has e := rfl
theorem infoCase : (Tryz.prog.info? 195).map (fun i => (i.zero.map (fun z => z.cells.size), i.size, i.bytes)) = some (some 4, 4, 32) := by kernel_rfl
theorem info_case : ∃ i z, Tryz.prog.info? 195 = some i ∧ i.zero = some z ∧ i.size = 4 ∧ i.bytes = 32 ∧ z.cells.size = 4 := by
  have h := infoCase
  cases hi : Tryz.prog.info? 195 with
  | none => rw [hi] at h; cases h
  | some i =>
    rw [hi] at h
    simp only [Option.map_some, Option.some.injEq, Prod.mk.injEq] at h
    obtain ⟨h1, h2, h3⟩ := h
    cases hz : i.zero with
    | none => rw [hz] at h1; cases h1
    | some z => rw [hz] at h1; simp at h1; exact ⟨i, z, rfl, hz, h2, h3, h1⟩

/-- a court's map, looked up -/
theorem CourtL.look {kb mb n : Nat} {dv : Value} {k : KS} {w : World} (h : CourtL kb mb dv n k w) {e : EV} (he : e.wf) (j : Nat) : (Instr.lookup 183 (.map (some mb)) (evV e) false).run Tryz.prog (w.drewN j) = .ok (.bool (k.has e)) (w.drewN j) := by
  obtain ⟨D, hm, hA⟩ := h.map
  obtain ⟨c, hrun, hat⟩ := lookup_bool (show (w.drewN j).ownsMap Tryz.prog 46 (plainElem Tryz.prog 4) mb n D from hm) keyE Tryz.underlying183 Tryz.underlying4 (zeroB _) (keyOf_ev he)
  have : c = k.has e := by have := hat.symm.trans (hA e he); simpa using this
  rw [← this]; exact hrun

/-- behind the call's own box of the evidence -/
structure AccB (w : World) (kb mb : Nat) (dv : Value) (A : Nat → Addr) (k : KS) (e : EV) (w1 : World) : Prop where
  below : Below w.heap.size w w1
  size : w1.heap.size = w.heap.size + 1
  e0 : w1.cell? ⟨w.heap.size, 0, none⟩ = some (.int .i64 e.b)
  e1 : w1.cell? ⟨w.heap.size, 1, none⟩ = some (.int .i64 e.c)
  e2 : w1.cell? ⟨w.heap.size, 2, none⟩ = some (.int .i64 e.n)
  g2 : w1.cell? ⟨0, 0, none⟩ = some (.iface 386 (.pointer (some (A 2))))
  g5 : w1.cell? ⟨2, 0, none⟩ = some (.iface 386 (.pointer (some (A 5))))
  g10 : w1.cell? ⟨9, 0, none⟩ = some (.iface 386 (.pointer (some (A 10))))
  c0 : w1.cell? ⟨kb, 0, none⟩ = some (.map (some mb))
  c1 : w1.cell? ⟨kb, 1, none⟩ = some dv
  f1 : w1.frozen? ⟨kb, 1, none⟩ = false
  look : ∀ j, (Instr.lookup 183 (.map (some mb)) (evV e) false).run Tryz.prog (w1.drewN j) = .ok (.bool (k.has e)) (w1.drewN j)
theorem AccB.of {w : World} {kb mb n : Nat} {dv : Value} {A : Nat → Addr} {S : List Nat} {k : KS} {e : EV} (hL : CourtL kb mb dv n k w) (hE : Errs A S w) (h2 : 2 ∈ S) (h5 : 5 ∈ S) (h10 : 10 ∈ S) (hw : e.wf) :
    AccB w kb mb dv A k e (w.alloc (.cells #[.int .i64 e.b, .int .i64 e.c, .int .i64 e.n] 46)) := by
  have hb : Below w.heap.size w (w.alloc (.cells #[.int .i64 e.b, .int .i64 e.c, .int .i64 e.n] 46)) := (Below.refl _ _).alloc (Nat.le_refl _) _
  have hE1 := hE.below hb
  have hL1 : CourtL kb mb dv n k (w.alloc (.cells #[.int .i64 e.b, .int .i64 e.c, .int .i64 e.n] 46)) := hL.keep (G := fun _ => False) (Keep.of_below hb) id id (fun _ _ => id)
  exact ⟨hb, by simp, by simp [go_sem], by simp [go_sem], by simp [go_sem], hE1.cell 2 h2, hE1.cell 5 h5, hE1.cell 10 h10, hL1.row.cell 0, hL1.row.cell 1, hL1.row.frozen 1, hL1.look hw⟩

set_option maxRecDepth 8000 in
set_option maxHeartbeats 1000000 in
theorem court_Accuse_no (A : Nat → Addr) (S : List Nat) (kb : Nat) (F : Nat → Prop) (n : Nat) (k : KS) (o : Int) (e : EV) (cy : Int) (w : World) (h : CourtAt kb F n k w) (hE : Errs A S w) (h2 : 2 ∈ S) (h5 : 5 ∈ S) (h10 : 10 ∈ S) (hw : e.wf) (hc : k.code o e cy ≠ 0) :
    Calls Tryz.prog 153 #[.pointer (some ⟨kb, 0, none⟩), .int .i64 o, evV e, .int .i64 cy] w fun y w' => y = .returned (ev A (k.code o e cy)) ∧ CourtP kb F n k w w' := by
  have HC := Lib.hid (fun w' => CourtP.of_below (w' := w') h)
  obtain ⟨mb, dv, hL, -, -, -, -⟩ := h
  have hB := AccB.of hL hE h2 h5 h10 hw
  unfold evV
  generalize hw1 : w.alloc (.cells #[.int .i64 e.b, .int .i64 e.c, .int .i64 e.n] 46) = w1 at hB
  obtain ⟨hb1, -, e0, e1, e2, g2, g5, g10, c0, c1, f1, hlk⟩ := hB
  have HB1 := Lib.hid hb1; clear hb1
  by_cases hb : o < 0 ∨ 6 ≤ o ∨ e.b < 0 ∨ 3 ≤ e.b ∨ e.n < 0 ∨ cy < 0 ∨ 1048576 < cy
  · rw [KS.bound hb]
    have hcs : o < 0 ∨ (0 ≤ o ∧ 6 ≤ o) ∨ (0 ≤ o ∧ o < 6 ∧ e.b < 0) ∨ (0 ≤ o ∧ o < 6 ∧ 0 ≤ e.b ∧ 3 ≤ e.b) ∨ (0 ≤ o ∧ o < 6 ∧ 0 ≤ e.b ∧ e.b < 3 ∧ e.n < 0) ∨ (0 ≤ o ∧ o < 6 ∧ 0 ≤ e.b ∧ e.b < 3 ∧ 0 ≤ e.n ∧ cy < 0) ∨ (0 ≤ o ∧ o < 6 ∧ 0 ≤ e.b ∧ e.b < 3 ∧ 0 ≤ e.n ∧ 0 ≤ cy ∧ 1048576 < cy) := by omega
    clear hL hE hlk hb hc hw
    obtain ⟨eb, ec, en⟩ := e
    simp only at hcs hw1 e0 e1 e2 ⊢
    rcases hcs with h1 | ⟨h1, h2⟩ | ⟨h1, h2, h3⟩ | ⟨h1, h2, h3, h4⟩ | ⟨h1, h2, h3, h4, h5⟩ | ⟨h1, h2, h3, h4, h5, h6⟩ | ⟨h1, h2, h3, h4, h5, h6, h7⟩
    all_goals
      go_enter Tryz.func153, Tryz.ntmps153
      go_wp2
      go_ret
      exact ⟨rfl, HC.out _ HB1.out⟩
  · have ho : ownB o = true := ownB_iff.2 (by omega)
    have hcd := KS.code_of (k := k) (o := o) (e := e) (cy := cy) ho (by omega) (by omega) (by omega)
    have i1 : 0 ≤ o := by omega
    have i2 : o < 6 := by omega
    have i3 : 0 ≤ e.b := by omega
    have i4 : e.b < 3 := by omega
    have i5 : 0 ≤ e.n := by omega
    have i6 : 0 ≤ cy := by omega
    have i7 : cy ≤ 1048576 := by omega
    by_cases hold : cy < e.c ∨ e.c < cy - 2 ∨ e.c < 0
    · rw [if_pos hold] at hcd
      rw [hcd]
      have hcs : cy < e.c ∨ (e.c ≤ cy ∧ e.c < cy - 2) ∨ (e.c ≤ cy ∧ cy - 2 ≤ e.c ∧ e.c < 0) := by omega
      clear hL hE hlk hb hc hold hcd ho hw
      obtain ⟨eb, ec, en⟩ := e
      simp only at hcs hw1 e0 e1 e2 i3 i4 i5 ⊢
      rcases hcs with j1 | ⟨j1, j2⟩ | ⟨j1, j2, j3⟩
      all_goals
        go_enter Tryz.func153, Tryz.ntmps153
        go_wp2
        go_ret
        exact ⟨rfl, HC.out _ HB1.out⟩
    · rw [if_neg hold] at hcd
      have hh : k.has e = true := by
        cases hx : k.has e with
        | true => rfl
        | false => rw [hx] at hcd; simp at hcd; exact absurd hcd hc
      rw [hh] at hcd hlk
      simp only [if_true] at hcd
      rw [hcd]
      have j1 : e.c ≤ cy := by omega
      have j2 : cy - 2 ≤ e.c := by omega
      have j3 : 0 ≤ e.c := by omega
      clear hL hE hb hc hold hcd ho hh hw
      obtain ⟨eb, ec, en⟩ := e
      unfold evV at hlk
      simp only at hlk hw1 e0 e1 e2 i3 i4 i5 j1 j2 j3 ⊢
      go_enter Tryz.func153, Tryz.ntmps153
      go_wp2_with fail
      go_quiet (fail)
      go_wp2
      go_ret
      exact ⟨rfl, HC.out _ (HB1.out.drewN _)⟩

theorem CourtL.finish {kb mb n i j g cap : Nat} {dv : Value} {k : KS} {F : Nat → Prop} {w w1 w2 w3 : World} {ob : Obj} {o : Int} {e : EV} {D : DataW Unit} (hL : CourtL kb mb dv n k w) (hF1 : F kb) (hF2 : F mb) (hF3 : ∀ g, dv.ownBlock = some g → F g) (hlt : ∀ b, F b → b < w.heap.size) (he : e.wf)
    (hD : w.ownsMap Tryz.prog 46 (plainElem Tryz.prog 4) mb n D) (hA : ∀ f : EV, f.wf → D.atKey (evK f) (.lit (.bool false)) = .lit (.bool (k.has f)))
    (hb1 : Below w.heap.size w w1) (ht : (w1.drewN j).mapTurned w2 mb) (hm : w2.ownsMap Tryz.prog 46 (plainElem Tryz.prog 4) mb (n + 1) (D.put (evK e) (.lit (.bool true))))
    (hg : ((w2.drewN i).alloc ob).grownBy w3 dv.ownBlock) (ho : w3.ownsRow 0 195 4 (.slice (some ⟨g, 0, none⟩) (k.due.length + 1) cap) (k.due.length + 1) (casesE k.due ++ caseE (o, e)))
    (hor : dv.ownBlock = some g ∨ g = w2.heap.size + 1) (hgl : g < w3.heap.size) :
    CourtP kb F (n + 1) ⟨k.L ++ [(o, e)], k.done⟩ w (w3.setCell ⟨kb, 1, none⟩ (.slice (some ⟨g, 0, none⟩) (k.due.length + 1) cap)) := by
  have KG : ∀ G : Nat → Prop, G mb → (∀ g, dv.ownBlock = some g → G g) → Keep G w w3 := fun G h1 h2 =>
    ((((Keep.of_below (F := G) hb1).drewN j).grown ht.grown (fun k hk => by cases hk; exact .inl h1)).drewN i |>.alloc ob).grown hg (fun k hk => .inl (h2 k hk))
  have hw2 : w.heap.size ≤ w2.heap.size := Nat.le_trans hb1.size ht.grown.size
  have hkb := hL.row.lt
  have hmb := hlt _ hF2
  have hgk : g ≠ kb := by
    rcases hor with h | h
    · exact fun e => hL.dk (by rw [h, e])
    · omega
  have hgm : g ≠ mb := by
    rcases hor with h | h
    · exact fun e => hL.dm (by rw [h, e])
    · omega
  have K5 : Keep F w (w3.setCell ⟨kb, 1, none⟩ (.slice (some ⟨g, 0, none⟩) (k.due.length + 1) cap)) := (KG F hF2 hF3).setCell (p := ⟨kb, 1, none⟩) (.inl hF1) _
  have hrow : RowAt kb 186 [.map (some mb), dv] w3 := hL.row.keep (KG (fun b => b = mb ∨ dv.ownBlock = some b) (.inl rfl) (fun g h => .inr h)) (by
    rintro (h | h)
    · exact hL.ne h
    · exact hL.dk h)
  have hset := hrow.set 1 (.slice (some ⟨g, 0, none⟩) (k.due.length + 1) cap)
  refine ⟨K5, mb, .slice (some ⟨g, 0, none⟩) (k.due.length + 1) cap, hL.added (w1 := w1) he hD hA ?_ hset ?_ ?_ ?_, .inl hF1, .inl hF2, fun g' hg' => ?_, grownF_lt hlt K5.size⟩
  · obtain ⟨es, clock, q1, q2⟩ := hm
    refine ⟨es, clock, ?_, q2⟩
    rw [Below.heap_setCell _ _ _ _ (show mb ≠ kb from fun e => hL.ne e.symm), hg.block mb (by simp; omega) (fun e => hL.dm e.symm), Below.heap_alloc _ _ _ (by simp; omega)]
    exact q1
  · refine ownsRow_other ho (fun g' hg' => ?_)
    have : g' = g := by simpa [Value.ownBlock] using hg'.symm
    subst this
    exact Below.heap_setCell _ _ _ _ hgk
  · simpa [Value.ownBlock] using hgk
  · simpa [Value.ownBlock] using hgm
  · have : g' = g := by simpa [Value.ownBlock] using hg'.symm
    subst this
    rcases hor with h | h
    · exact .inl (hF3 _ h)
    · exact .inr ⟨by omega, by simpa [World.setCell] using hgl⟩

/-- what the court's block and the box hold while the map turns, and behind the append -/
theorem CourtL.far {kb mb n j : Nat} {dv : Value} {k : KS} {F : Nat → Prop} {w w1 : World} (hL : CourtL kb mb dv n k w) (hlt : ∀ b, F b → b < w.heap.size) (hF1 : F kb) (hF2 : F mb) (hb1 : Below w.heap.size w w1) (hF3 : ∀ g, dv.ownBlock = some g → F g) {a b c : Value} (e0 : w1.cell? ⟨w.heap.size, 0, none⟩ = some a) (e1 : w1.cell? ⟨w.heap.size, 1, none⟩ = some b) (e2 : w1.cell? ⟨w.heap.size, 2, none⟩ = some c) (w2 : World) (ht : (w1.drewN j).mapTurned w2 mb) :
    (w2.cell? ⟨w.heap.size, 0, none⟩ = some a ∧ w2.cell? ⟨w.heap.size, 1, none⟩ = some b ∧ w2.cell? ⟨w.heap.size, 2, none⟩ = some c ∧ w2.cell? ⟨kb, 1, none⟩ = some dv ∧ w2.frozen? ⟨kb, 1, none⟩ = false ∧ ∀ ob, (w2.alloc ob).cell? ⟨kb, 1, none⟩ = some dv) ∧
    (∀ i ob, ((w2.drewN i).alloc ob).ownsRow 0 195 4 dv k.due.length (casesE k.due)) ∧
    ∀ i ob w3, ((w2.drewN i).alloc ob).grownBy w3 dv.ownBlock → w3.cell? ⟨kb, 1, none⟩ = some dv ∧ w3.frozen? ⟨kb, 1, none⟩ = false := by
  have hmb := hlt _ hF2
  have hkb := hlt _ hF1
  have hs := hb1.size
  have hwl : w.heap.size < w1.heap.size := World.block_lt_of_cell? w1 _ e0
  have hx : ∀ i, w2.cell? ⟨w.heap.size, i, none⟩ = w1.cell? ⟨w.heap.size, i, none⟩ := fun i => turned_cell (w := w1.drewN j) ht hwl (by omega)
  have KG : Keep (fun b => b = mb) w w2 := ((Keep.of_below hb1).drewN j).grown ht.grown (fun k hk => by cases hk; exact .inl rfl)
  have hr2 : RowAt kb 186 [.map (some mb), dv] w2 := hL.row.keep KG hL.ne
  have hd2 : w2.ownsRow 0 195 4 dv k.due.length (casesE k.due) := ownsRow_other hL.due (fun g hg => KG.block g (hlt _ (hF3 g hg)) (fun e => hL.dm (by rw [hg, e])))
  refine ⟨⟨by rw [hx]; exact e0, by rw [hx]; exact e1, by rw [hx]; exact e2, hr2.cell 1, hr2.frozen 1, fun ob => (hr2.alloc ob).cell 1⟩, fun i ob => ?_, fun i ob w3 hg => ?_⟩
  · exact ownsRow_other hd2 (fun g hg => Below.heap_alloc _ _ _ (by have := hlt _ (hF3 g hg); have := KG.size; simp; omega))
  · have hr3 : RowAt kb 186 [.map (some mb), dv] w3 := hr2.keep ((((Keep.refl (fun b => dv.ownBlock = some b) w2).drewN i).alloc ob).grown hg (fun k hk => .inl hk)) hL.dk
    exact ⟨hr3.cell 1, hr3.frozen 1⟩

end Go.Proofs.YtajnfkmkombajacGreatDoor
namespace Go.Proofs.YtajnfkmkombajacGreatDoor
open Go.RowKit Go.Maps

theorem evFields : (Tryz.prog.fieldsOf 46).toList.map (fun f => (f.name, f.type, f.offset)) = [("Baker", 3, 0), ("Cycle", 3, 1), ("Number", 3, 2)] := by
  unfold Program.fieldsOf; rw [Tryz.underlying46]; rfl
theorem ev_equal (d : Nat) (x y : EV) (w : World) : (Op.equalIn (d + 2) 46 (evV x) (evV y)).run Tryz.prog w = .ok (decide (x = y)) w := by
  have hu := Tryz.underlying46
  have hui := Tryz.underlying3
  have hsz : ∀ w, (sizeOf 3).run Tryz.prog w = .ok 1 w := fun w => by kernel_rfl
  unfold evV
  rw [run_equalIn_agg _ _ _ _ _ (by unfold Program.fieldsOf; rw [hu]) (by kernel_rfl)]
  unfold Program.fieldsOf
  rw [hu]
  obtain ⟨xb, xc, xn⟩ := x
  obtain ⟨yb, yc, yn⟩ := y
  simp [Op.eqFields, part, hsz, run_equalIn_int w _ _ .i64 .i64 _ _ hui, Result.andThen]
  by_cases h1 : xb = yb
  · by_cases h2 : xc = yc
    · by_cases h3 : xn = yn
      · simp [h1, h2, h3]
      · simp [h1, h2, h3]
    · simp [h1, h2]
  · simp [h1]
theorem ev_eql (x y : EV) (w : World) : (binOp .eql 46 (evV x) (evV y)).run Tryz.prog w = .ok (.bool (decide (x = y))) w := by
  have h := ev_equal 9998 x y w
  unfold evV at h ⊢
  rw [run_eql_struct, h]; rfl
theorem ev_neq (x y : EV) (w : World) : (binOp .neq 46 (evV x) (evV y)).run Tryz.prog w = .ok (.bool (!decide (x = y))) w := by
  have h := ev_equal 9998 x y w
  unfold evV at h ⊢
  rw [run_neq_struct, h]; rfl
theorem evGuard : Tryz.prog.eqGuardType Tryz.prog.depth 46 = false := by kernel_rfl
end Go.Proofs.YtajnfkmkombajacGreatDoor
namespace Go.Proofs.YtajnfkmkombajacGreatDoor
open Go.RowKit Go.Maps

theorem caseE_len (x : Int × EV) : (caseE x).length = 4 := rfl
structure RCL (rb : Nat) (lv : Value) (k : KS) (w : World) : Prop where
  row : RowAt rb 149 [lv, .int .i64 k.done] w
  l : w.ownsRow 0 213 4 lv k.L.length (casesE k.L)
  nl : lv.ownBlock ≠ some rb
  done : k.done ≤ k.L.length
/-- block rb is the document's court that holds k, among the blocks F -/
def RCourtAt (rb : Nat) (F : Nat → Prop) (k : KS) (w : World) : Prop := ∃ lv, RCL rb lv k w ∧ F rb ∧ (∀ g, lv.ownBlock = some g → F g) ∧ ∀ b, F b → b < w.heap.size
def RCourtP (rb : Nat) (F : Nat → Prop) (k : KS) (w w' : World) : Prop := Keep F w w' ∧ RCourtAt rb (grownF F w w') k w'
section
variable {rb : Nat} {lv : Value} {k : KS} {F G : Nat → Prop} {w w' : World}
theorem RCL.keep (h : RCL rb lv k w) (K : Keep G w w') (h1 : ¬ G rb) (h3 : ∀ g, lv.ownBlock = some g → ¬ G g) : RCL rb lv k w' :=
  ⟨h.row.keep K h1, ownsRow_other h.l (fun g hg => K.block g (h.l.lt g hg).2 (h3 g hg)), h.nl, h.done⟩
theorem RCourtAt.keep (h : RCourtAt rb F k w) (K : Keep G w w') (hG : ∀ b, F b → ¬ G b) : RCourtAt rb F k w' := by
  obtain ⟨lv, h1, h2, h4, h5⟩ := h
  exact ⟨lv, h1.keep K (hG _ h2) (fun g hg => hG _ (h4 g hg)), h2, h4, fun b hb => Nat.lt_of_lt_of_le (h5 b hb) K.size⟩
theorem RCourtAt.below (h : RCourtAt rb F k w) (K : Below w.heap.size w w') : RCourtAt rb F k w' := h.keep (G := fun _ => False) (Keep.of_below K) (fun _ _ => id)
theorem RCourtAt.lt (h : RCourtAt rb F k w) : ∀ b, F b → b < w.heap.size := by obtain ⟨lv, h1, h2, h3, h4⟩ := h; exact h4
theorem RCourtAt.foot (h : RCourtAt rb F k w) (hG : ∀ b, F b → G b) (hlt : ∀ b, G b → b < w.heap.size) : RCourtAt rb G k w := by
  obtain ⟨lv, h1, h2, h3, h4⟩ := h
  exact ⟨lv, h1, hG _ h2, fun g hg => hG _ (h3 g hg), hlt⟩
theorem RCourtP.of_below (h : RCourtAt rb F k w) (hb : Below w.heap.size w w') : RCourtP rb F k w w' :=
  ⟨Keep.of_below hb, (h.below hb).foot (fun _ hk => .inl hk) (grownF_lt (fun _ hk => h.lt _ hk) hb.size)⟩
theorem RCL.added {lv' : Value} {x : Int × EV} {w1 : World} (h : RCL rb lv k w) (hr : RowAt rb 149 [lv', .int .i64 k.done] w1) (hl : w1.ownsRow 0 213 4 lv' (k.L.length + 1) (casesE k.L ++ caseE x)) (hn : lv'.ownBlock ≠ some rb) : RCL rb lv' ⟨k.L ++ [x], k.done⟩ w1 :=
  ⟨hr, by simp only; rw [casesE_snoc, List.length_append]; exact hl, hn, by have := h.done; simp; omega⟩
theorem RCL.finish {w1 w3 : World} {g cap : Nat} {x : Int × EV} {ob : Obj} {i : Nat} (hL : RCL rb lv k w) (hF1 : F rb) (hF3 : ∀ g, lv.ownBlock = some g → F g) (hlt : ∀ b, F b → b < w.heap.size) (hb1 : Below w.heap.size w w1)
    (hg : ((w1.drewN i).alloc ob).grownBy w3 lv.ownBlock) (ho : w3.ownsRow 0 213 4 (.slice (some ⟨g, 0, none⟩) (k.L.length + 1) cap) (k.L.length + 1) (casesE k.L ++ caseE x))
    (hor : lv.ownBlock = some g ∨ g = w1.heap.size + 1) (hgl : g < w3.heap.size) :
    RCourtP rb F ⟨k.L ++ [x], k.done⟩ w (w3.setCell ⟨rb, 0, none⟩ (.slice (some ⟨g, 0, none⟩) (k.L.length + 1) cap)) := by
  have KG : ∀ G : Nat → Prop, (∀ g, lv.ownBlock = some g → G g) → Keep G w w3 := fun G h2 =>
    (((Keep.of_below (F := G) hb1).drewN i).alloc ob).grown hg (fun k hk => .inl (h2 k hk))
  have hs := hb1.size
  have hrb := hL.row.lt
  have hgk : g ≠ rb := by
    rcases hor with h | h
    · exact fun e => hL.nl (by rw [h, e])
    · omega
  have K5 : Keep F w (w3.setCell ⟨rb, 0, none⟩ (.slice (some ⟨g, 0, none⟩) (k.L.length + 1) cap)) := (KG F hF3).setCell (p := ⟨rb, 0, none⟩) (.inl hF1) _
  have hrow : RowAt rb 149 [lv, .int .i64 k.done] w3 := hL.row.keep (KG (fun b => lv.ownBlock = some b) (fun g h => h)) hL.nl
  have hset := hrow.set 0 (.slice (some ⟨g, 0, none⟩) (k.L.length + 1) cap)
  refine ⟨K5, .slice (some ⟨g, 0, none⟩) (k.L.length + 1) cap, hL.added hset ?_ (by simpa [Value.ownBlock] using hgk), .inl hF1, fun g' hg' => ?_, grownF_lt hlt K5.size⟩
  · refine ownsRow_other ho (fun g' hg' => ?_)
    have : g' = g := by simpa [Value.ownBlock] using hg'.symm
    subst this
    exact Below.heap_setCell _ _ _ _ hgk
  · have : g' = g := by simpa [Value.ownBlock] using hg'.symm
    subst this
    rcases hor with h | h
    · exact .inl (hF3 _ h)
    · exact .inr ⟨by omega, by simpa [World.setCell] using hgl⟩
end
theorem infoRCase : (Tryz.prog.info? 213).map (fun i => (i.zero.map (fun z => z.cells.size), i.size, i.bytes)) = some (some 4, 4, 32) := by kernel_rfl
theorem info_rcase : ∃ i z, Tryz.prog.info? 213 = some i ∧ i.zero = some z ∧ i.size = 4 ∧ i.bytes = 32 ∧ z.cells.size = 4 := by
  have h := infoRCase
  cases hi : Tryz.prog.info? 213 with
  | none => rw [hi] at h; cases h
  | some i =>
    rw [hi] at h
    simp only [Option.map_some, Option.some.injEq, Prod.mk.injEq] at h
    obtain ⟨h1, h2, h3⟩ := h
    cases hz : i.zero with
    | none => rw [hz] at h1; cases h1
    | some z => rw [hz] at h1; simp at h1; exact ⟨i, z, rfl, hz, h2, h3, h1⟩

/-- behind the call's own box of the evidence -/
structure RAccB (w : World) (rb : Nat) (lv : Value) (k : KS) (e : EV) (w1 : World) : Prop where
  below : Below w.heap.size w w1
  e0 : w1.cell? ⟨w.heap.size, 0, none⟩ = some (.int .i64 e.b)
  e1 : w1.cell? ⟨w.heap.size, 1, none⟩ = some (.int .i64 e.c)
  e2 : w1.cell? ⟨w.heap.size, 2, none⟩ = some (.int .i64 e.n)
  c0 : w1.cell? ⟨rb, 0, none⟩ = some lv
  l : w1.ownsRow 0 213 4 lv k.L.length (casesE k.L)
  far : (∀ i ob, ((w1.drewN i).alloc ob).cell? ⟨rb, 0, none⟩ = some lv) ∧ (∀ i ob, ((w1.drewN i).alloc ob).ownsRow 0 213 4 lv k.L.length (casesE k.L)) ∧
    ∀ i ob w3, ((w1.drewN i).alloc ob).grownBy w3 lv.ownBlock → w3.cell? ⟨rb, 0, none⟩ = some lv ∧ w3.frozen? ⟨rb, 0, none⟩ = false
theorem RAccB.of {w : World} {rb : Nat} {lv : Value} {k : KS} {e : EV} (hL : RCL rb lv k w) : RAccB w rb lv k e (w.alloc (.cells #[.int .i64 e.b, .int .i64 e.c, .int .i64 e.n] 46)) := by
  have hb : Below w.heap.size w (w.alloc (.cells #[.int .i64 e.b, .int .i64 e.c, .int .i64 e.n] 46)) := (Below.refl _ _).alloc (Nat.le_refl _) _
  have hL1 : RCL rb lv k (w.alloc (.cells #[.int .i64 e.b, .int .i64 e.c, .int .i64 e.n] 46)) := hL.keep (G := fun _ => False) (Keep.of_below hb) id (fun _ _ => id)
  refine ⟨hb, by simp [go_sem], by simp [go_sem], by simp [go_sem], hL1.row.cell 0, hL1.l, fun i ob => ((hL1.row.drewN i).alloc ob).cell 0, fun i ob => ?_, fun i ob w3 hg => ?_⟩
  · exact ownsRow_other hL1.l (fun g hg => Below.heap_alloc _ _ _ (hL1.l.lt g hg).2)
  · have hr3 : RowAt rb 149 [lv, .int .i64 k.done] w3 := hL1.row.keep ((((Keep.refl (fun b => lv.ownBlock = some b) _).drewN i).alloc ob).grown hg (fun k hk => .inl hk)) hL.nl
    exact ⟨hr3.cell 0, hr3.frozen 0⟩
theorem KS.has_iff {k : KS} {e : EV} : k.has e = true ↔ ∃ x ∈ k.L, x.2 = e := by unfold KS.has; rw [List.any_eq_true]; simp

set_option maxRecDepth 8000 in
set_option maxHeartbeats 2000000 in
theorem ref_CourtAccuse (rb : Nat) (F : Nat → Prop) (k : KS) (o : Int) (e : EV) (cy : Int) (w : World) (h : RCourtAt rb F k w) (hk : k.L.length ≤ 1000000) :
    Calls Tryz.prog 111 #[.pointer (some ⟨rb, 0, none⟩), .int .i64 o, evV e, .int .i64 cy] w fun y w' => y = .returned (.int .i64 (k.accuse o e cy).1) ∧ RCourtP rb F (k.accuse o e cy).2 w w' := by
  have HC := Lib.hid (fun w' => RCourtP.of_below (w' := w') h)
  obtain ⟨i0, z0, hi, hz0, hz1, hz2, hz3⟩ := info_rcase
  obtain ⟨lv, hL, hF1, hF3, hlt⟩ := h
  have hB := RAccB.of (e := e) hL
  obtain ⟨eb, ec, en⟩ := e
  unfold evV
  simp only at hB
  generalize hw1 : w.alloc (.cells #[.int .i64 eb, .int .i64 ec, .int .i64 en] 46) = w1 at hB
  obtain ⟨hb1, e0, e1, e2, c0, l1, hfar⟩ := hB
  simp only at e0 e1 e2
  have HFIN := Lib.hid (fun i g cap w3 ob => hL.finish (i := i) (g := g) (cap := cap) (w1 := w1) (w3 := w3) (ob := ob) (x := (o, ⟨eb, ec, en⟩)) hF1 hF3 hlt hb1)
  have HB1 := Lib.hid hb1; clear hb1 hL hF1 hF3 hlt
  have HFAR := Lib.hid hfar; clear hfar
  by_cases hb : ownB o = false ∨ eb < 0 ∨ 3 ≤ eb ∨ en < 0 ∨ cy < 0 ∨ 1048576 < cy
  · have E := Lib.hid (show k.accuse o ⟨eb, ec, en⟩ cy = (2, k) from KS.acc_bad (by unfold KS.code; rw [if_pos hb]) (by decide))
    have hcs : ownB o = false ∨ (ownB o = true ∧ eb < 0) ∨ (ownB o = true ∧ 0 ≤ eb ∧ 3 ≤ eb) ∨ (ownB o = true ∧ 0 ≤ eb ∧ eb < 3 ∧ en < 0) ∨ (ownB o = true ∧ 0 ≤ eb ∧ eb < 3 ∧ 0 ≤ en ∧ cy < 0) ∨ (ownB o = true ∧ 0 ≤ eb ∧ eb < 3 ∧ 0 ≤ en ∧ 0 ≤ cy ∧ 1048576 < cy) := by
      cases ho : ownB o with
      | false => exact .inl rfl
      | true =>
        have : eb < 0 ∨ 3 ≤ eb ∨ en < 0 ∨ cy < 0 ∨ 1048576 < cy := hb.resolve_left (by rw [ho]; decide)
        simp only [true_and]
        omega
    clear hb
    rcases hcs with h1 | ⟨h1, h2⟩ | ⟨h1, h2, h3⟩ | ⟨h1, h2, h3, h4⟩ | ⟨h1, h2, h3, h4, h5⟩ | ⟨h1, h2, h3, h4, h5, h6⟩
    all_goals
      go_enter Tryz.func111, Tryz.ntmps111
      go_wp2_with fail
      refine (ref_IsOwner _ _).mono ?_
      rintro y w2 ⟨rfl, rfl⟩
      rw [h1]
      go_wp2_with fail
      go_ret
      exact ⟨by rw [E.out]; rfl, by rw [E.out]; exact HC.out _ HB1.out⟩
  · have ho : ownB o = true := by
      cases hx : ownB o with
      | true => rfl
      | false => exact absurd (.inl hx) hb
    have i1 : 0 ≤ eb ∧ eb < 3 ∧ 0 ≤ en ∧ 0 ≤ cy ∧ cy ≤ 1048576 := by omega
    obtain ⟨i1, i2, i3, i4, i5⟩ := i1
    have hcd := KS.code_of (k := k) (o := o) (e := ⟨eb, ec, en⟩) (cy := cy) ho ⟨i1, i2⟩ i3 ⟨i4, i5⟩
    simp only at hcd
    clear hb
    by_cases hold : cy < ec ∨ ec < cy - 2 ∨ ec < 0
    · rw [if_pos hold] at hcd
      have E := Lib.hid (KS.acc_bad hcd (by decide))
      have hcs : ec < 0 ∨ (0 ≤ ec ∧ cy < ec) ∨ (0 ≤ ec ∧ ec ≤ cy ∧ ec < cy - 2) := by omega
      clear hold hcd
      rcases hcs with h1 | ⟨h1, h2⟩ | ⟨h1, h2, h3⟩
      all_goals
        go_enter Tryz.func111, Tryz.ntmps111
        go_wp2_with fail
        refine (ref_IsOwner _ _).mono ?_
        rintro y w2 ⟨rfl, rfl⟩
        rw [ho]
        go_wp2_with fail
        go_ret
        exact ⟨by rw [E.out]; rfl, by rw [E.out]; exact HC.out _ HB1.out⟩
    · rw [if_neg hold] at hcd
      have j1 : ec ≤ cy ∧ cy - 2 ≤ ec ∧ 0 ≤ ec := by omega
      obtain ⟨j1, j2, j3⟩ := j1
      clear hold
      obtain ⟨la, lc, rfl⟩ := own_shape l1
      have HL := Lib.hid (RdR.of_row caseE_len (by decide) l1)
      have HLc := Lib.hid HL.out.lc
      have HCD := Lib.hid hcd; clear hcd l1
      have hGd := evGuard
      go_enter Tryz.func111, Tryz.ntmps111
      go_wp2_with fail
      refine (ref_IsOwner _ _).mono ?_
      rintro y w2 ⟨rfl, rfl⟩
      rw [ho]
      clear ho
      go_wp2_with fail
      go_loopg [10] k.L.length (fun g i wr => ∃ (j d : Nat), g + j = k.L.length ∧ i = .int .i64 j ∧ wr = w1.drewN d ∧ ∀ x ∈ k.L.take j, x.2 ≠ ⟨eb, ec, en⟩)
      case atStart => exact ⟨0, 0, rfl, rfl, rfl, by simp⟩
      case round =>
        obtain ⟨j, d, hgj, rfl, rfl, hno⟩ := hrel
        have HGJ := Lib.hid (And.intro hgj hno); clear hgj hno
        by_cases hjl : j < k.L.length
        · obtain ⟨x, hx⟩ : ∃ x, k.L[j]? = some x := ⟨_, List.getElem?_eq_getElem hjl⟩
          obtain ⟨b7, off7, rfl, hbl7, hcs7⟩ := HL.out.cells j x hx
          have t1 := hcs7 1 (by decide)
          have t2 := hcs7 2 (by decide)
          have t3 := hcs7 3 (by decide)
          simp only [caseE, List.getElem?_cons_zero, List.getElem?_cons_succ, Nat.add_zero] at t1 t2 t3
          have hq := fun w => ev_eql x.2 ⟨eb, ec, en⟩ w
          unfold evV at hq
          simp only at hq
          have HX := Lib.hid hx
          have hlc := HLc.out
          clear hcs7 hx
          by_cases hxe : x.2 = ⟨eb, ec, en⟩
          · rw [show decide (x.2 = (⟨eb, ec, en⟩ : EV)) = true by simp [hxe]] at hq
            have E := Lib.hid (show k.accuse o ⟨eb, ec, en⟩ cy = (5, k) from KS.acc_bad (by rw [HCD.out, KS.has_iff.2 ⟨x, List.mem_of_getElem? HX.out, hxe⟩]; rfl) (by decide))
            clear hxe
            generalize k.L.length = tl at *
            go_wp2_with fail
            go_quiet (fail)
            go_wp2_with fail
            go_ret
            exact ⟨by rw [E.out]; rfl, by rw [E.out]; exact HC.out _ ((HB1.out.drewN _).drewN _)⟩
          · rw [show decide (x.2 = (⟨eb, ec, en⟩ : EV)) = false by simp [hxe]] at hq
            have HXE := Lib.hid hxe
            clear hxe
            have htk := List.take_add_one (l := k.L) (i := j)
            rw [HX.out] at htk
            have HTK := Lib.hid htk; clear htk
            go_wp2_with fail
            go_quiet (fail)
            go_wp2_with fail
            have hgj := HGJ.out.1
            go_roundg (k.L.length - (j + 1))
            case measure => omega
            case rel => exact ⟨j + 1, d + nq, by omega, by go_num, rfl, fun y hy => by
              rw [HTK.out] at hy
              rcases List.mem_append.1 hy with hy | hy
              · exact HGJ.out.2 y hy
              · simp at hy; subst hy; exact HXE.out⟩
        · have hno := HGJ.out.2
          rw [List.take_of_length_le (by omega)] at hno
          have hh : k.has ⟨eb, ec, en⟩ = false := by
            cases hx : k.has ⟨eb, ec, en⟩ with
            | false => rfl
            | true => obtain ⟨x, h1, h2⟩ := KS.has_iff.1 hx; exact absurd h2 (hno x h1)
          have E := Lib.hid (show k.accuse o ⟨eb, ec, en⟩ cy = (0, ⟨k.L ++ [(o, ⟨eb, ec, en⟩)], k.done⟩) from KS.acc_ok (by rw [HCD.out, hh]; rfl))
          clear hno hh
          have hlc := HLc.out
          have hgj := HGJ.out.1
          have k7 := HFAR.out.1 (d + 1) (.cells #[.int .i64 o, .int .i64 eb, .int .i64 ec, .int .i64 en] 213)
          go_wp2_with fail
          go_region_law ((refine step_append_lies _ rfl (.tmp 77) (.tmp 81) 147 rfl 0 213 i0 z0 4 32 Tryz.underlying147 hi hz0 hz1 hz2 hz3 (by decide) (.slice la k.L.length lc) k.L.length (casesE k.L) rfl (HFAR.out.2.1 (d + 1) _) ⟨_, 0, none⟩ 1 1 (caseE (o, ⟨eb, ec, en⟩)) rfl rfl (World.news_of_block (heap_alloc_new _ _)) (by intro u hu; simp [caseE] at hu; rcases hu with rfl | rfl | rfl | rfl <;> rfl) (by decide) (by unfold maxLen; omega) (by omega) (Nat.zero_le _) _ rfl ?_; intro g cap w3 ho3 hg3 hor hlt3; obtain ⟨m1, m2⟩ := HFAR.out.2.2 (d + 1) _ _ hg3))
          all_goals
            have hend := HFIN.out (d + 1) g cap w3 _ hg3 ho3 (by simpa using hor) hlt3
            have HEND := Lib.hid hend
            clear hend ho3 hg3 hor hlt3
            go_wp2_with fail
            go_ret
            exact ⟨by rw [E.out]; rfl, by rw [E.out]; exact HEND.out⟩
end Go.Proofs.YtajnfkmkombajacGreatDoor
