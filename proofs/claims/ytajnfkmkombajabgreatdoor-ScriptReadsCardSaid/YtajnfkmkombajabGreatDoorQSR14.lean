/-
  Package court in memory: New, Accuse, Due, Percent, Share.
  append of one row onto another, both slices of the call's own; where the new slice lies; rows that read as data. No program in sight.
  Package court in memory: Accuse, Due.
  Package court in memory: Accuse where nothing is wrong; a copy of cases; Due.
-/
import Derived.Test.YtajnfkmkombajabGreatDoorQSR06
import Derived.Test.YtajnfkmkombajabGreatDoorQSR09
import Derived.Test.YtajnfkmkombajabGreatDoorQSR13
import Derived.Test.YtajnfkmkombajabGreatDoorQSR03
import Derived.Deep.RegionWith
import Derived.Deep.QuietTactic
import Derived.BigQuiet
import Derived.Test.YtajnfkmkombajabGreatDoorQSR01
import Derived.Maps.AppendAt
import Derived.Laws.AppendOwnNone
import Derived.Deep.RegionLaw
import Derived.Deep.AppendLies
import Derived.Lib.Walk
import Derived.Lib.SliceRun
set_option linter.unusedVariables false
set_option linter.unusedSimpArgs false
set_option linter.unusedVariables false
namespace Go.Proofs.YtajnfkmkombajabGreatDoor
open Go.RowKit Go.Maps

/-- a case's cells -/
def caseE (x : Int × EV) : List Value := [.int .i64 x.1, .int .i64 x.2.b, .int .i64 x.2.c, .int .i64 x.2.n]
def casesE (l : List (Int × EV)) : List Value := l.flatMap caseE
theorem casesE_length (l : List (Int × EV)) : (casesE l).length = l.length * 4 := by
  induction l with
  | nil => rfl
  | cons x l ih => unfold casesE at ih ⊢; rw [List.flatMap_cons, List.length_append, ih]; simp [caseE]; omega
theorem casesE_snoc (l : List (Int × EV)) (x : Int × EV) : casesE (l ++ [x]) = casesE l ++ caseE x := by simp [casesE]
def KS.has (k : KS) (e : EV) : Bool := k.L.any (fun x => decide (x.2 = e))

structure CourtL (kb mb : Nat) (dv : Value) (n : Nat) (k : KS) (w : World) : Prop where
  row : RowAt kb 86 [.map (some mb), dv] w
  ne : kb ≠ mb
  map : ∃ D : DataW Unit, w.ownsMap Tryz.prog 100 (plainElem Tryz.prog 4) mb n D ∧ ∀ e : EV, e.wf → D.atKey (evK e) (.lit (.bool false)) = .lit (.bool (k.has e))
  due : w.ownsRow 0 162 4 dv k.due.length (casesE k.due)
  dk : dv.ownBlock ≠ some kb
  dm : dv.ownBlock ≠ some mb
  wf : ∀ x ∈ k.L, x.2.wf
  done : k.done ≤ k.L.length
/-- block kb is a court that holds k, among the blocks F -/
def CourtAt (kb : Nat) (F : Nat → Prop) (n : Nat) (k : KS) (w : World) : Prop := ∃ mb dv, CourtL kb mb dv n k w ∧ F kb ∧ F mb ∧ (∀ g, dv.ownBlock = some g → F g) ∧ ∀ b, F b → b < w.heap.size
def CourtP (kb : Nat) (F : Nat → Prop) (n : Nat) (k : KS) (w w' : World) : Prop := Keep F w w' ∧ CourtAt kb (grownF F w w') n k w'

section
variable {kb mb n : Nat} {dv : Value} {k : KS} {F G : Nat → Prop} {w w' : World}
theorem CourtL.keep (h : CourtL kb mb dv n k w) (K : Keep G w w') (h1 : ¬ G kb) (h2 : ¬ G mb) (h3 : ∀ g, dv.ownBlock = some g → ¬ G g) : CourtL kb mb dv n k w' := by
  obtain ⟨D, ⟨es, clock, e1, e2⟩, h5⟩ := h.map
  refine ⟨h.row.keep K h1, h.ne, ⟨D, ⟨es, clock, K.heap e1 h2, e2⟩, h5⟩, ?_, h.dk, h.dm, h.wf, h.done⟩
  obtain ⟨l1, l2⟩ := h.due
  refine ⟨l1, ?_⟩
  rcases l2 with l2 | ⟨g, cap, cur, hv, hb, hg, r⟩
  · exact .inl l2
  · exact .inr ⟨g, cap, cur, hv, hb, K.heap hg (h3 g (by rw [hv]; rfl)), r⟩
theorem CourtAt.keep (h : CourtAt kb F n k w) (K : Keep G w w') (hG : ∀ b, F b → ¬ G b) : CourtAt kb F n k w' := by
  obtain ⟨mb, dv, h1, h2, h3, h4, h5⟩ := h
  exact ⟨mb, dv, h1.keep K (hG _ h2) (hG _ h3) (fun g hg => hG _ (h4 g hg)), h2, h3, h4, fun b hb => Nat.lt_of_lt_of_le (h5 b hb) K.size⟩
theorem CourtAt.below (h : CourtAt kb F n k w) (K : Below w.heap.size w w') : CourtAt kb F n k w' := h.keep (G := fun _ => False) (Keep.of_below K) (fun _ _ => id)
theorem CourtAt.foot (h : CourtAt kb F n k w) (hG : ∀ b, F b → G b) (hlt : ∀ b, G b → b < w.heap.size) : CourtAt kb G n k w := by
  obtain ⟨mb, dv, h1, h2, h3, h4, h5⟩ := h
  exact ⟨mb, dv, h1, hG _ h2, hG _ h3, fun g hg => hG _ (h4 g hg), hlt⟩
theorem CourtAt.lt (h : CourtAt kb F n k w) : ∀ b, F b → b < w.heap.size := by obtain ⟨mb, dv, h1, h2, h3, h4, h5⟩ := h; exact h5
theorem CourtAt.mono (h : CourtAt kb F n k w) {m : Nat} (hm : n ≤ m) : CourtAt kb F m k w := by
  obtain ⟨mb, dv, h1, h2⟩ := h
  obtain ⟨D, h3, h4⟩ := h1.map
  exact ⟨mb, dv, ⟨h1.row, h1.ne, ⟨D, h3.mono hm, h4⟩, h1.due, h1.dk, h1.dm, h1.wf, h1.done⟩, h2⟩
theorem CourtP.of_below (h : CourtAt kb F n k w) (hb : Below w.heap.size w w') : CourtP kb F n k w w' :=
  ⟨Keep.of_below hb, (h.below hb).foot (fun _ hk => .inl hk) (grownF_lt (fun _ hk => h.lt _ hk) hb.size)⟩
end

theorem court_Percent (n : Int) (w : World) : Calls Tryz.prog 140 #[.int .i64 n] w fun e w' => e = .returned (.int .i64 (pct n)) ∧ w = w' := by
  by_cases h : n.tmod 2 = 0
  · have e : pct n = 5 := if_pos h
    rw [e]
    go_enter Tryz.func140, Tryz.ntmps140
    go_wp2
    go_ret
    exact ⟨rfl, rfl⟩
  · have e : pct n = 50 := if_neg h
    rw [e]
    go_enter Tryz.func140, Tryz.ntmps140
    go_wp2
    go_ret
    exact ⟨rfl, rfl⟩

def shareA (n : Int) : Int := if n < 0 then 0 else n / 7
def shareB (n : Int) : Int := if n < 0 then 0 else n - n / 7
theorem court_Share (n : Int) (hn : n ≤ 9223372036854775807) (w : World) : Calls Tryz.prog 141 #[.int .i64 n] w fun e w' => e = .returned (.tuple #[.int .i64 (shareA n), .int .i64 (shareB n)]) ∧ w = w' := by
  by_cases h : n < 0
  · have e1 : shareA n = 0 := if_pos h
    have e2 : shareB n = 0 := if_pos h
    rw [e1, e2]
    go_enter Tryz.func141, Tryz.ntmps141
    go_wp2
    go_ret2
    exact ⟨rfl, rfl⟩
  · have h0 : 0 ≤ n := by omega
    have e0 : n.tdiv 7 = n / 7 := Int.tdiv_eq_ediv_of_nonneg h0
    have e1 : shareA n = n / 7 := if_neg h
    have e2 : shareB n = n - n / 7 := if_neg h
    rw [e1, e2]
    have b0 : 0 ≤ n / 7 := Int.ediv_nonneg h0 (by decide)
    have b1 : n / 7 ≤ n := by omega
    clear e1 e2 h
    generalize n / 7 = m at *
    go_enter Tryz.func141, Tryz.ntmps141
    go_wp2
    go_ret2
    exact ⟨rfl, rfl⟩

theorem court_New (w : World) : Calls Tryz.prog 16 #[] w fun e w' => e = .returned (.pointer (some ⟨w.heap.size + 1, 0, none⟩)) ∧ Below w.heap.size w w' ∧ CourtAt (w.heap.size + 1) (fun b => b = w.heap.size ∨ b = w.heap.size + 1) 0 KS.new w' := by
  have hmm := @run_makeMap Tryz.prog
  go_enter Tryz.func16, Tryz.ntmps16
  go_wp2
  go_ret
  refine ⟨by simp, ((Below.refl _ _).alloc (Nat.le_refl _) _).alloc (by simp) _, w.heap.size, .slice none 0 0, ⟨?_, by omega, ⟨.map [], (World.ownsMap_made w _ _ _).alloc _, fun e he => ?_⟩, World.ownsRow_nil _ _ _ _, by simp [Value.ownBlock], by simp [Value.ownBlock], (fun x hx => by cases hx), Nat.le_refl _⟩, .inr rfl, .inl rfl, (fun g hg => by cases hg), fun b hb => by simp; omega⟩
  · have := RowAt.new (w.alloc (.map #[] 0)) 86 [.map (some w.heap.size), .slice none 0 0]
    have hs : (w.alloc (.map #[] 0)).heap.size = w.heap.size + 1 := by simp
    rw [hs] at this
    exact this
  · rw [atKey_of_not_has (by rfl)]; rfl
end Go.Proofs.YtajnfkmkombajabGreatDoor
namespace Go.Proofs.YtajnfkmkombajabGreatDoor
open Go.RowKit

theorem ownsRow_other {base e size n : Nat} {v : Value} {xs : List Value} {w w' : World} (h : w.ownsRow base e size v n xs) (hk : ∀ g, v.ownBlock = some g → w'.heap[g]? = w.heap[g]?) : w'.ownsRow base e size v n xs := by
  obtain ⟨l1, l2⟩ := h
  refine ⟨l1, ?_⟩
  rcases l2 with l2 | ⟨g, cap, cur, hv, hb, hg, r⟩
  · exact .inl l2
  · exact .inr ⟨g, cap, cur, hv, hb, by rw [hk g (by rw [hv]; rfl)]; exact hg, r⟩

theorem run_append_row {P : Program} (w : World) (t ty : TypeId) (base : Nat) (e : TypeId) (i : TypeInfo) (z : Value) (size bytes : Nat) (ht : P.underlying t = some (.slice e)) (hi : P.info? e = some i) (hz : i.zero = some z)
    (hsize : i.size = size) (hby : i.bytes = bytes) (hzs : z.cells.size = size) (hsz : 0 < size) (v : Value) (n : Nat) (xs : List Value) (hown : w.ownsRow base e size v n xs)
    (b2 : Nat) (xv : Value) (m : Nat) (news : List Value) (hx : w.ownsRow b2 e size xv m news) (h1 : ∀ u ∈ news, u.oneCell' = true) (h63 : n + m ≤ maxLen) (hbytes : (n + m) * bytes ≤ 140737488355328) (hbase : base ≤ w.heap.size) :
    ∃ v' w', (Builtin.append_ #[t, t] ty #[v, xv]).run P w = .ok v' w' ∧ w'.ownsRow base e size v' (n + m) (xs ++ news) ∧ w.grownBy w' v.ownBlock ∧ (v'.ownBlock = v.ownBlock ∨ v'.ownBlock = some w.heap.size) := by
  rcases hx.2 with ⟨rfl, rfl⟩ | ⟨g, cap, cur, rfl, _⟩
  · have hn : news = [] := List.eq_nil_of_length_eq_zero (by simpa using hx.1)
    subst hn
    exact ⟨v, w, run_append_owned_none (P := P) (w := w) base t ty e i size ht hi v n xs hown, by simpa using hown, ⟨rfl, rfl, rfl, Nat.le_refl _, fun _ _ _ => rfl⟩, .inl rfl⟩
  · obtain ⟨v', w', hr, a, b, _, c⟩ := run_append_own_at (P := P) w base t ty e i z size bytes ht hi hz hsize hby hzs hsz v n xs hown ⟨g, 0, none⟩ m cap news hx.1 (hx.cells (g := g) rfl) h1 h63 hbytes hbase
    exact ⟨v', w', hr, a, b, c⟩

theorem wpList_append_row {P : Program} (w : World) {ops : Array Oper} {rest : List Oper} {o : Oper} {a : Act} {Q : Exit → Act → World → Prop} (hgd : o.guard = none) (s x : Operand) (t : TypeId)
    (ho : o.op = .call { callee := .builtin .append, args := #[s, x], argTypes := #[t, t] })
    (base : Nat) (e : TypeId) (i : TypeInfo) (z : Value) (size bytes : Nat) (ht : P.underlying t = some (.slice e)) (hi : P.info? e = some i) (hz : i.zero = some z)
    (hsize : i.size = size) (hby : i.bytes = bytes) (hzs : z.cells.size = size) (hsz : 0 < size) (v : Value) (n : Nat) (xs : List Value) (hs : a.eval s = v) (hown : w.ownsRow base e size v n xs)
    (b2 : Nat) (xv : Value) (m : Nat) (news : List Value) (hx : a.eval x = xv) (hxo : w.ownsRow b2 e size xv m news) (h1 : ∀ u ∈ news, u.oneCell' = true) (h63 : n + m ≤ maxLen) (hbytes : (n + m) * bytes ≤ 140737488355328) (hbase : base ≤ w.heap.size)
    (h : ∀ v' w', w'.ownsRow base e size v' (n + m) (xs ++ news) → w.grownBy w' v.ownBlock → (v'.ownBlock = v.ownBlock ∨ v'.ownBlock = some w.heap.size) → wpList P ops Q rest (a.put o.dst v') w') : wpList P ops Q (o :: rest) a w := by
  refine wpList_plain hgd fun K hK => ?_
  obtain ⟨v', w', hr, h2, h3, h4⟩ := run_append_row (P := P) w t o.type base e i z size bytes ht hi hz hsize hby hzs hsz v n xs hown b2 xv m news hxo h1 h63 hbytes hbase
  unfold Oper.wp execOp
  simp only [ho, resolve, invoke, builtin, Sem.run_bind, Sem.run_pure, Result.andThen_ok, List.map_toArray, List.map_cons, List.map_nil, hs, hx, hr]
  exact hK _ _ (h v' w' h2 h3 h4)

/-- at a step of a region that draws its order: whatever is appended, be it nothing -/
theorem step_append_at {P : Program} {ops : Array Oper} {o : Oper} {a : Act} {w : World} {K : Act → World → Prop} {Q : Exit → Act → World → Prop} {E : Prop} (hgd : o.guard = none) (s x : Operand) (t : TypeId)
    (ho : o.op = .call { callee := .builtin .append, args := #[s, x], argTypes := #[t, t] })
    (base : Nat) (e : TypeId) (i : TypeInfo) (z : Value) (size bytes : Nat) (ht : P.underlying t = some (.slice e)) (hi : P.info? e = some i) (hz : i.zero = some z)
    (hsize : i.size = size) (hby : i.bytes = bytes) (hzs : z.cells.size = size) (hsz : 0 < size) (v : Value) (n : Nat) (xs : List Value) (hs : a.eval s = v) (hown : w.ownsRow base e size v n xs)
    (ad : Addr) (m c : Nat) (news : List Value) (hx : a.eval x = .slice (some ad) m c) (hl : news.length = m * size) (hnews : ∀ j u, news[j]? = some u → w.cell? (ad.add j) = some u) (h1 : ∀ u ∈ news, u.oneCell' = true)
    (h63 : n + m ≤ maxLen) (hbytes : (n + m) * bytes ≤ 140737488355328) (hbase : base ≤ w.heap.size)
    (h : ∀ v' w', w'.ownsRow base e size v' (n + m) (xs ++ news) → w.grownBy w' v.ownBlock → (v'.ownBlock = v.ownBlock ∨ v'.ownBlock = some w.heap.size) → K (a.put o.dst v') w') :
    if Region.wanted o (yielded ops a.tmps) = true then Oper.wp P o a w K Q else E := by
  have hw : Region.wanted o (yielded ops a.tmps) = true := by simp [Region.wanted, hgd]
  rw [if_pos hw]
  obtain ⟨v', w', hr, h2, h3, _, h4⟩ := run_append_own_at (P := P) w base t o.type e i z size bytes ht hi hz hsize hby hzs hsz v n xs hown ad m c news hl hnews h1 h63 hbytes hbase
  unfold Oper.wp execOp
  simp only [ho, resolve, invoke, builtin, Sem.run_bind, Sem.run_pure, Result.andThen_ok, List.map_toArray, List.map_cons, List.map_nil, hs, hx, hr]
  exact h v' w' h2 h3 h4

section
variable {α : Type} {enc : α → List Value} {C : Nat}
theorem flatMap_get (hC : ∀ x, (enc x).length = C) : ∀ (l : List α) (i : Nat) (x : α), l[i]? = some x → ∀ j, j < C → (l.flatMap enc)[i * C + j]? = (enc x)[j]?
  | [], i, x, h, _, _ => by simp at h
  | y :: l, 0, x, h, j, hj => by
    simp at h; subst h
    rw [List.flatMap_cons, Nat.zero_mul, Nat.zero_add, List.getElem?_append_left (by rw [hC]; exact hj)]
  | y :: l, i + 1, x, h, j, hj => by
    rw [List.flatMap_cons, List.getElem?_append_right (by rw [hC, Nat.succ_mul]; omega), hC, show (i + 1) * C + j - C = i * C + j by rw [Nat.succ_mul]; omega]
    exact flatMap_get hC l i x (by simpa using h) j hj
theorem flatMap_len (hC : ∀ x, (enc x).length = C) : ∀ l : List α, (l.flatMap enc).length = l.length * C
  | [] => by simp
  | y :: l => by rw [List.flatMap_cons, List.length_append, hC, flatMap_len hC l, List.length_cons, Nat.succ_mul]; omega
/-- a row of the call's own that holds data reads as the data -/
theorem RdR.of_row {w : World} {base e : Nat} {ao : Option Addr} {len cap : Nat} {l : List α} (hC : ∀ x, (enc x).length = C) (h0 : 0 < C) (h : w.ownsRow base e C (.slice ao len cap) len (l.flatMap enc)) : RdR enc C w ao len cap l := by
  have hl : l.length = len := by
    have := h.1; rw [flatMap_len hC] at this
    exact Nat.eq_of_mul_eq_mul_right h0 this
  rcases h.2 with ⟨hv, hn⟩ | ⟨g, cap', cur, hv, hb, hg, hnc, hcm, _, _⟩
  · cases hv
    have : l = [] := List.eq_nil_of_length_eq_zero (by omega)
    subst this
    exact RdR.nil _ _ _
  · cases hv
    refine ⟨hl, hnc, hcm, fun h => (by cases h), fun i x hx => ⟨g, 0, rfl, lt_of_block hg, fun j hj => ?_⟩⟩
    have hcell := flatMap_get hC l i x hx j hj
    have hj' : j < (enc x).length := by rw [hC]; exact hj
    rw [List.getElem?_eq_getElem hj'] at hcell ⊢
    have := h.cells (g := g) rfl _ _ hcell
    rw [Addr.add_lit, Nat.zero_add] at this
    rw [Nat.zero_add]; exact this
end
end Go.Proofs.YtajnfkmkombajabGreatDoor
namespace Go.Proofs.YtajnfkmkombajabGreatDoor
open Go.RowKit Go.Maps

theorem KS.code_of {k : KS} {o : Int} {e : EV} {cy : Int} (h1 : ownB o = true) (h2 : 0 ≤ e.b ∧ e.b < 3) (h3 : 0 ≤ e.n) (h4 : 0 ≤ cy ∧ cy ≤ 1048576) : k.code o e cy = if cy < e.c ∨ e.c < cy - 2 ∨ e.c < 0 then 10 else if k.has e then 5 else 0 := by
  unfold KS.code KS.has; rw [if_neg (by simp [h1]; omega)]
theorem KS.acc_bad {k : KS} {o : Int} {e : EV} {cy : Int} {c : Nat} (h : k.code o e cy = c) (hc : c ≠ 0) : k.accuse o e cy = (c, k) := by unfold KS.accuse; rw [if_pos (by rw [h]; exact hc), h]
theorem KS.acc_ok {k : KS} {o : Int} {e : EV} {cy : Int} (h : k.code o e cy = 0) : k.accuse o e cy = (0, ⟨k.L ++ [(o, e)], k.done⟩) := by unfold KS.accuse; rw [if_neg (by simp [h])]
theorem KS.bound {k : KS} {o : Int} {e : EV} {cy : Int} (h : o < 0 ∨ 6 ≤ o ∨ e.b < 0 ∨ 3 ≤ e.b ∨ e.n < 0 ∨ cy < 0 ∨ 1048576 < cy) : k.code o e cy = 2 := by
  unfold KS.code; rw [if_pos]
  rcases h with h | h | h | h | h | h | h
  · exact .inl (by cases ho : ownB o with | false => rfl | true => have := ownB_iff.1 ho; omega)
  · exact .inl (by cases ho : ownB o with | false => rfl | true => have := ownB_iff.1 ho; omega)
  all_goals simp [h]
theorem KS.has_add (k : KS) (o : Int) (e f : EV) : (KS.mk (k.L ++ [(o, e)]) k.done).has f = (k.has f || decide (e = f)) := by simp [KS.has]
theorem KS.due_add {k : KS} (h : k.done ≤ k.L.length) (o : Int) (e : EV) : (KS.mk (k.L ++ [(o, e)]) k.done).due = k.due ++ [(o, e)] := by
  unfold KS.due; simp only; rw [List.drop_append_of_le_length h]

/-- the court has one case more -/
theorem CourtL.added {kb mb n : Nat} {dv dv' : Value} {k : KS} {o : Int} {e : EV} {w w1 w2 : World} {D : DataW Unit} (h : CourtL kb mb dv n k w) (he : e.wf)
    (hD : w.ownsMap Tryz.prog 100 (plainElem Tryz.prog 4) mb n D) (hA : ∀ f : EV, f.wf → D.atKey (evK f) (.lit (.bool false)) = .lit (.bool (k.has f)))
    (hm : w2.ownsMap Tryz.prog 100 (plainElem Tryz.prog 4) mb (n + 1) (D.put (evK e) (.lit (.bool true)))) (hr : RowAt kb 86 [.map (some mb), dv'] w2)
    (hd : w2.ownsRow 0 162 4 dv' (k.due.length + 1) (casesE k.due ++ caseE (o, e))) (hk : dv'.ownBlock ≠ some kb) (hk2 : dv'.ownBlock ≠ some mb) : CourtL kb mb dv' (n + 1) ⟨k.L ++ [(o, e)], k.done⟩ w2 := by
  refine ⟨hr, h.ne, ⟨_, hm, fun f hf => ?_⟩, ?_, hk, hk2, fun x hx => ?_, by have := h.done; simp; omega⟩
  · rw [KS.has_add]
    by_cases hef : e = f
    · subst hef
      rw [Maps.atKey_put_same hD.isMap (keyE.key (keyOf_ev he))]; simp
    · rw [Maps.atKey_put_other (fun e' => hef (evK_inj he hf e'.symm)), hA f hf]; simp [hef]
  · rw [KS.due_add h.done, casesE_snoc, List.length_append]; exact hd
  · rcases List.mem_append.1 hx with hx | hx
    · exact h.wf x hx
    · obtain rfl := List.mem_singleton.1 hx; exact he

theorem KS.has_wf (k : KS) (e : EV) : (k.L.any (fun x => decide (x.2 = e))) = k.has e := rfl
theorem infoCase : (Tryz.prog.info? 162).map (fun i => (i.zero.map (fun z => z.cells.size), i.size, i.bytes)) = some (some 4, 4, 32) := by kernel_rfl
theorem info_case : ∃ i z, Tryz.prog.info? 162 = some i ∧ i.zero = some z ∧ i.size = 4 ∧ i.bytes = 32 ∧ z.cells.size = 4 := by
  have h := infoCase
  cases hi : Tryz.prog.info? 162 with
  | none => rw [hi] at h; cases h
  | some i =>
    rw [hi] at h
    simp only [Option.map_some, Option.some.injEq, Prod.mk.injEq] at h
    obtain ⟨h1, h2, h3⟩ := h
    cases hz : i.zero with
    | none => rw [hz] at h1; cases h1
    | some z => rw [hz] at h1; simp at h1; exact ⟨i, z, rfl, hz, h2, h3, h1⟩

/-- a court's map, looked up -/
theorem CourtL.look {kb mb n : Nat} {dv : Value} {k : KS} {w : World} (h : CourtL kb mb dv n k w) {e : EV} (he : e.wf) (j : Nat) : (Instr.lookup 83 (.map (some mb)) (evV e) false).run Tryz.prog (w.drewN j) = .ok (.bool (k.has e)) (w.drewN j) := by
  obtain ⟨D, hm, hA⟩ := h.map
  obtain ⟨c, hrun, hat⟩ := lookup_bool (show (w.drewN j).ownsMap Tryz.prog 100 (plainElem Tryz.prog 4) mb n D from hm) keyE Tryz.underlying83 Tryz.underlying4 (zeroB _) (keyOf_ev he)
  have : c = k.has e := by have := hat.symm.trans (hA e he); simpa using this
  rw [← this]; exact hrun

/-- behind the call's own box of the evidence -/
structure AccB (w : World) (kb mb : Nat) (dv : Value) (A : Nat → Addr) (k : KS) (e : EV) (w1 : World) : Prop where
  below : Below w.heap.size w w1
  size : w1.heap.size = w.heap.size + 1
  e0 : w1.cell? ⟨w.heap.size, 0, none⟩ = some (.int .i64 e.b)
  e1 : w1.cell? ⟨w.heap.size, 1, none⟩ = some (.int .i64 e.c)
  e2 : w1.cell? ⟨w.heap.size, 2, none⟩ = some (.int .i64 e.n)
  g2 : w1.cell? ⟨0, 0, none⟩ = some (.iface 235 (.pointer (some (A 2))))
  g5 : w1.cell? ⟨4, 0, none⟩ = some (.iface 235 (.pointer (some (A 5))))
  g10 : w1.cell? ⟨9, 0, none⟩ = some (.iface 235 (.pointer (some (A 10))))
  c0 : w1.cell? ⟨kb, 0, none⟩ = some (.map (some mb))
  c1 : w1.cell? ⟨kb, 1, none⟩ = some dv
  f1 : w1.frozen? ⟨kb, 1, none⟩ = false
  look : ∀ j, (Instr.lookup 83 (.map (some mb)) (evV e) false).run Tryz.prog (w1.drewN j) = .ok (.bool (k.has e)) (w1.drewN j)
theorem AccB.of {w : World} {kb mb n : Nat} {dv : Value} {A : Nat → Addr} {S : List Nat} {k : KS} {e : EV} (hL : CourtL kb mb dv n k w) (hE : Errs A S w) (h2 : 2 ∈ S) (h5 : 5 ∈ S) (h10 : 10 ∈ S) (hw : e.wf) :
    AccB w kb mb dv A k e (w.alloc (.cells #[.int .i64 e.b, .int .i64 e.c, .int .i64 e.n] 100)) := by
  have hb : Below w.heap.size w (w.alloc (.cells #[.int .i64 e.b, .int .i64 e.c, .int .i64 e.n] 100)) := (Below.refl _ _).alloc (Nat.le_refl _) _
  have hE1 := hE.below hb
  have hL1 : CourtL kb mb dv n k (w.alloc (.cells #[.int .i64 e.b, .int .i64 e.c, .int .i64 e.n] 100)) := hL.keep (G := fun _ => False) (Keep.of_below hb) id id (fun _ _ => id)
  exact ⟨hb, by simp, by simp [go_sem], by simp [go_sem], by simp [go_sem], hE1.cell 2 h2, hE1.cell 5 h5, hE1.cell 10 h10, hL1.row.cell 0, hL1.row.cell 1, hL1.row.frozen 1, hL1.look hw⟩

set_option maxRecDepth 8000 in
set_option maxHeartbeats 1000000 in
theorem court_Accuse_no (A : Nat → Addr) (S : List Nat) (kb : Nat) (F : Nat → Prop) (n : Nat) (k : KS) (o : Int) (e : EV) (cy : Int) (w : World) (h : CourtAt kb F n k w) (hE : Errs A S w) (h2 : 2 ∈ S) (h5 : 5 ∈ S) (h10 : 10 ∈ S) (hw : e.wf) (hc : k.code o e cy ≠ 0) :
    Calls Tryz.prog 87 #[.pointer (some ⟨kb, 0, none⟩), .int .i64 o, evV e, .int .i64 cy] w fun y w' => y = .returned (ev A (k.code o e cy)) ∧ CourtP kb F n k w w' := by
  have HC := Lib.hid (fun w' => CourtP.of_below (w' := w') h)
  obtain ⟨mb, dv, hL, -, -, -, -⟩ := h
  have hB := AccB.of hL hE h2 h5 h10 hw
  unfold evV
  generalize hw1 : w.alloc (.cells #[.int .i64 e.b, .int .i64 e.c, .int .i64 e.n] 100) = w1 at hB
  obtain ⟨hb1, -, e0, e1, e2, g2, g5, g10, c0, c1, f1, hlk⟩ := hB
  have HB1 := Lib.hid hb1; clear hb1
  by_cases hb : o < 0 ∨ 6 ≤ o ∨ e.b < 0 ∨ 3 ≤ e.b ∨ e.n < 0 ∨ cy < 0 ∨ 1048576 < cy
  · rw [KS.bound hb]
    have hcs : o < 0 ∨ (0 ≤ o ∧ 6 ≤ o) ∨ (0 ≤ o ∧ o < 6 ∧ e.b < 0) ∨ (0 ≤ o ∧ o < 6 ∧ 0 ≤ e.b ∧ 3 ≤ e.b) ∨ (0 ≤ o ∧ o < 6 ∧ 0 ≤ e.b ∧ e.b < 3 ∧ e.n < 0) ∨ (0 ≤ o ∧ o < 6 ∧ 0 ≤ e.b ∧ e.b < 3 ∧ 0 ≤ e.n ∧ cy < 0) ∨ (0 ≤ o ∧ o < 6 ∧ 0 ≤ e.b ∧ e.b < 3 ∧ 0 ≤ e.n ∧ 0 ≤ cy ∧ 1048576 < cy) := by omega
    clear hL hE hlk hb hc hw
    obtain ⟨eb, ec, en⟩ := e
    simp only at hcs hw1 e0 e1 e2 ⊢
    rcases hcs with h1 | ⟨h1, h2⟩ | ⟨h1, h2, h3⟩ | ⟨h1, h2, h3, h4⟩ | ⟨h1, h2, h3, h4, h5⟩ | ⟨h1, h2, h3, h4, h5, h6⟩ | ⟨h1, h2, h3, h4, h5, h6, h7⟩
    all_goals
      go_enter Tryz.func87, Tryz.ntmps87
      go_wp2
      go_ret
      exact ⟨rfl, HC.out _ HB1.out⟩
  · have ho : ownB o = true := ownB_iff.2 (by omega)
    have hcd := KS.code_of (k := k) (o := o) (e := e) (cy := cy) ho (by omega) (by omega) (by omega)
    have i1 : 0 ≤ o := by omega
    have i2 : o < 6 := by omega
    have i3 : 0 ≤ e.b := by omega
    have i4 : e.b < 3 := by omega
    have i5 : 0 ≤ e.n := by omega
    have i6 : 0 ≤ cy := by omega
    have i7 : cy ≤ 1048576 := by omega
    by_cases hold : cy < e.c ∨ e.c < cy - 2 ∨ e.c < 0
    · rw [if_pos hold] at hcd
      rw [hcd]
      have hcs : cy < e.c ∨ (e.c ≤ cy ∧ e.c < cy - 2) ∨ (e.c ≤ cy ∧ cy - 2 ≤ e.c ∧ e.c < 0) := by omega
      clear hL hE hlk hb hc hold hcd ho hw
      obtain ⟨eb, ec, en⟩ := e
      simp only at hcs hw1 e0 e1 e2 i3 i4 i5 ⊢
      rcases hcs with j1 | ⟨j1, j2⟩ | ⟨j1, j2, j3⟩
      all_goals
        go_enter Tryz.func87, Tryz.ntmps87
        go_wp2
        go_ret
        exact ⟨rfl, HC.out _ HB1.out⟩
    · rw [if_neg hold] at hcd
      have hh : k.has e = true := by
        cases hx : k.has e with
        | true => rfl
        | false => rw [hx] at hcd; simp at hcd; exact absurd hcd hc
      rw [hh] at hcd hlk
      simp only [if_true] at hcd
      rw [hcd]
      have j1 : e.c ≤ cy := by omega
      have j2 : cy - 2 ≤ e.c := by omega
      have j3 : 0 ≤ e.c := by omega
      clear hL hE hb hc hold hcd ho hh hw
      obtain ⟨eb, ec, en⟩ := e
      unfold evV at hlk
      simp only at hlk hw1 e0 e1 e2 i3 i4 i5 j1 j2 j3 ⊢
      go_enter Tryz.func87, Tryz.ntmps87
      go_wp2_with fail
      go_quiet (fail)
      go_wp2
      go_ret
      exact ⟨rfl, HC.out _ (HB1.out.drewN _)⟩

theorem CourtL.finish {kb mb n i j g cap : Nat} {dv : Value} {k : KS} {F : Nat → Prop} {w w1 w2 w3 : World} {ob : Obj} {o : Int} {e : EV} {D : DataW Unit} (hL : CourtL kb mb dv n k w) (hF1 : F kb) (hF2 : F mb) (hF3 : ∀ g, dv.ownBlock = some g → F g) (hlt : ∀ b, F b → b < w.heap.size) (he : e.wf)
    (hD : w.ownsMap Tryz.prog 100 (plainElem Tryz.prog 4) mb n D) (hA : ∀ f : EV, f.wf → D.atKey (evK f) (.lit (.bool false)) = .lit (.bool (k.has f)))
    (hb1 : Below w.heap.size w w1) (ht : (w1.drewN j).mapTurned w2 mb) (hm : w2.ownsMap Tryz.prog 100 (plainElem Tryz.prog 4) mb (n + 1) (D.put (evK e) (.lit (.bool true))))
    (hg : ((w2.drewN i).alloc ob).grownBy w3 dv.ownBlock) (ho : w3.ownsRow 0 162 4 (.slice (some ⟨g, 0, none⟩) (k.due.length + 1) cap) (k.due.length + 1) (casesE k.due ++ caseE (o, e)))
    (hor : dv.ownBlock = some g ∨ g = w2.heap.size + 1) (hgl : g < w3.heap.size) :
    CourtP kb F (n + 1) ⟨k.L ++ [(o, e)], k.done⟩ w (w3.setCell ⟨kb, 1, none⟩ (.slice (some ⟨g, 0, none⟩) (k.due.length + 1) cap)) := by
  have KG : ∀ G : Nat → Prop, G mb → (∀ g, dv.ownBlock = some g → G g) → Keep G w w3 := fun G h1 h2 =>
    ((((Keep.of_below (F := G) hb1).drewN j).grown ht.grown (fun k hk => by cases hk; exact .inl h1)).drewN i |>.alloc ob).grown hg (fun k hk => .inl (h2 k hk))
  have hw2 : w.heap.size ≤ w2.heap.size := Nat.le_trans hb1.size ht.grown.size
  have hkb := hL.row.lt
  have hmb := hlt _ hF2
  have hgk : g ≠ kb := by
    rcases hor with h | h
    · exact fun e => hL.dk (by rw [h, e])
    · omega
  have hgm : g ≠ mb := by
    rcases hor with h | h
    · exact fun e => hL.dm (by rw [h, e])
    · omega
  have K5 : Keep F w (w3.setCell ⟨kb, 1, none⟩ (.slice (some ⟨g, 0, none⟩) (k.due.length + 1) cap)) := (KG F hF2 hF3).setCell (p := ⟨kb, 1, none⟩) (.inl hF1) _
  have hrow : RowAt kb 86 [.map (some mb), dv] w3 := hL.row.keep (KG (fun b => b = mb ∨ dv.ownBlock = some b) (.inl rfl) (fun g h => .inr h)) (by
    rintro (h | h)
    · exact hL.ne h
    · exact hL.dk h)
  have hset := hrow.set 1 (.slice (some ⟨g, 0, none⟩) (k.due.length + 1) cap)
  refine ⟨K5, mb, .slice (some ⟨g, 0, none⟩) (k.due.length + 1) cap, hL.added (w1 := w1) he hD hA ?_ hset ?_ ?_ ?_, .inl hF1, .inl hF2, fun g' hg' => ?_, grownF_lt hlt K5.size⟩
  · obtain ⟨es, clock, q1, q2⟩ := hm
    refine ⟨es, clock, ?_, q2⟩
    rw [Below.heap_setCell _ _ _ _ (show mb ≠ kb from fun e => hL.ne e.symm), hg.block mb (by simp; omega) (fun e => hL.dm e.symm), Below.heap_alloc _ _ _ (by simp; omega)]
    exact q1
  · refine ownsRow_other ho (fun g' hg' => ?_)
    have : g' = g := by simpa [Value.ownBlock] using hg'.symm
    subst this
    exact Below.heap_setCell _ _ _ _ hgk
  · simpa [Value.ownBlock] using hgk
  · simpa [Value.ownBlock] using hgm
  · have : g' = g := by simpa [Value.ownBlock] using hg'.symm
    subst this
    rcases hor with h | h
    · exact .inl (hF3 _ h)
    · exact .inr ⟨by omega, by simpa [World.setCell] using hgl⟩

/-- what the court's block and the box hold while the map turns, and behind the append -/
theorem CourtL.far {kb mb n j : Nat} {dv : Value} {k : KS} {F : Nat → Prop} {w w1 : World} (hL : CourtL kb mb dv n k w) (hlt : ∀ b, F b → b < w.heap.size) (hF1 : F kb) (hF2 : F mb) (hb1 : Below w.heap.size w w1) (hF3 : ∀ g, dv.ownBlock = some g → F g) {a b c : Value} (e0 : w1.cell? ⟨w.heap.size, 0, none⟩ = some a) (e1 : w1.cell? ⟨w.heap.size, 1, none⟩ = some b) (e2 : w1.cell? ⟨w.heap.size, 2, none⟩ = some c) (w2 : World) (ht : (w1.drewN j).mapTurned w2 mb) :
    (w2.cell? ⟨w.heap.size, 0, none⟩ = some a ∧ w2.cell? ⟨w.heap.size, 1, none⟩ = some b ∧ w2.cell? ⟨w.heap.size, 2, none⟩ = some c ∧ w2.cell? ⟨kb, 1, none⟩ = some dv ∧ w2.frozen? ⟨kb, 1, none⟩ = false ∧ ∀ ob, (w2.alloc ob).cell? ⟨kb, 1, none⟩ = some dv) ∧
    (∀ i ob, ((w2.drewN i).alloc ob).ownsRow 0 162 4 dv k.due.length (casesE k.due)) ∧
    ∀ i ob w3, ((w2.drewN i).alloc ob).grownBy w3 dv.ownBlock → w3.cell? ⟨kb, 1, none⟩ = some dv ∧ w3.frozen? ⟨kb, 1, none⟩ = false := by
  have hmb := hlt _ hF2
  have hkb := hlt _ hF1
  have hs := hb1.size
  have hwl : w.heap.size < w1.heap.size := World.block_lt_of_cell? w1 _ e0
  have hx : ∀ i, w2.cell? ⟨w.heap.size, i, none⟩ = w1.cell? ⟨w.heap.size, i, none⟩ := fun i => turned_cell (w := w1.drewN j) ht hwl (by omega)
  have KG : Keep (fun b => b = mb) w w2 := ((Keep.of_below hb1).drewN j).grown ht.grown (fun k hk => by cases hk; exact .inl rfl)
  have hr2 : RowAt kb 86 [.map (some mb), dv] w2 := hL.row.keep KG hL.ne
  have hd2 : w2.ownsRow 0 162 4 dv k.due.length (casesE k.due) := ownsRow_other hL.due (fun g hg => KG.block g (hlt _ (hF3 g hg)) (fun e => hL.dm (by rw [hg, e])))
  refine ⟨⟨by rw [hx]; exact e0, by rw [hx]; exact e1, by rw [hx]; exact e2, hr2.cell 1, hr2.frozen 1, fun ob => (hr2.alloc ob).cell 1⟩, fun i ob => ?_, fun i ob w3 hg => ?_⟩
  · exact ownsRow_other hd2 (fun g hg => Below.heap_alloc _ _ _ (by have := hlt _ (hF3 g hg); have := KG.size; simp; omega))
  · have hr3 : RowAt kb 86 [.map (some mb), dv] w3 := hr2.keep ((((Keep.refl (fun b => dv.ownBlock = some b) w2).drewN i).alloc ob).grown hg (fun k hk => .inl hk)) hL.dk
    exact ⟨hr3.cell 1, hr3.frozen 1⟩

end Go.Proofs.YtajnfkmkombajabGreatDoor
namespace Go.Proofs.YtajnfkmkombajabGreatDoor
open Go.RowKit Go.Maps

set_option maxRecDepth 8000 in
set_option maxHeartbeats 1000000 in
theorem court_Accuse_yes (A : Nat → Addr) (S : List Nat) (kb : Nat) (F : Nat → Prop) (n : Nat) (k : KS) (o : Int) (e : EV) (cy : Int) (w : World) (h : CourtAt kb F n k w) (hE : Errs A S w) (h2 : 2 ∈ S) (h5 : 5 ∈ S) (h10 : 10 ∈ S) (hw : e.wf) (hn : n ≤ 1000000) (hk : k.L.length ≤ 1000000) (hc : k.code o e cy = 0) :
    Calls Tryz.prog 87 #[.pointer (some ⟨kb, 0, none⟩), .int .i64 o, evV e, .int .i64 cy] w fun y w' => y = .returned .nilIface ∧ CourtP kb F (n + 1) ⟨k.L ++ [(o, e)], k.done⟩ w w' := by
  obtain ⟨i0, z0, hi, hz0, hz1, hz2, hz3⟩ := info_case
  obtain ⟨mb, dv, hL, hF1, hF2, hF3, hlt⟩ := h
  have hB := AccB.of hL hE h2 h5 h10 hw
  have hdl : k.due.length ≤ 1000000 := by unfold KS.due; rw [List.length_drop]; omega
  unfold evV
  generalize hw1 : w.alloc (.cells #[.int .i64 e.b, .int .i64 e.c, .int .i64 e.n] 100) = w1 at hB
  obtain ⟨hb1, hsz1, e0, e1, e2, g2, g5, g10, c0, c1, f1, hlk⟩ := hB
  have hcs : 0 ≤ o ∧ o < 6 ∧ 0 ≤ e.b ∧ e.b < 3 ∧ 0 ≤ e.n ∧ 0 ≤ cy ∧ cy ≤ 1048576 ∧ e.c ≤ cy ∧ cy - 2 ≤ e.c ∧ 0 ≤ e.c ∧ k.has e = false := by
    by_cases hb : o < 0 ∨ 6 ≤ o ∨ e.b < 0 ∨ 3 ≤ e.b ∨ e.n < 0 ∨ cy < 0 ∨ 1048576 < cy
    · rw [KS.bound hb] at hc; cases hc
    · have ho : ownB o = true := ownB_iff.2 (by omega)
      rw [KS.code_of ho (by omega) (by omega) (by omega)] at hc
      split at hc
      · cases hc
      · split at hc
        · cases hc
        · next h1 h2 => exact ⟨by omega, by omega, by omega, by omega, by omega, by omega, by omega, by omega, by omega, by omega, by simpa using h2⟩
  obtain ⟨i1, i2, i3, i4, i5, i6, i7, j1, j2, j3, hh⟩ := hcs
  rw [hh] at hlk
  obtain ⟨D, hown, hat⟩ := hL.map
  have hown1 : ∀ j, (w1.drewN j).ownsMap Tryz.prog 100 (plainElem Tryz.prog 4) mb n D := fun j => by
    obtain ⟨es, clock, q1, q2⟩ := hown
    exact ⟨es, clock, below_heap hb1 q1 (hlt _ hF2), q2⟩
  clear hE hc
  obtain ⟨eb, ec, en⟩ := e
  have HFIN := Lib.hid (fun i j g cap w2 w3 ob => hL.finish (i := i) (j := j) (g := g) (cap := cap) (w1 := w1) (w2 := w2) (w3 := w3) (ob := ob) (o := o) hF1 hF2 hF3 hlt hw hown hat hb1)
  have HFAR := Lib.hid (fun j => hL.far hlt hF1 hF2 hb1 hF3 e0 e1 e2 (j := j))
  have HST := Lib.hid (fun j => (hown1 j).store keyE Tryz.underlying83 (by unfold maxLen; omega) (keyOf_ev hw) (plainElem_bool Tryz.underlying4 true))
  have hlw := hsz1
  unfold evV at hlk HST
  simp only at hlk HST hw1 e0 e1 e2 i3 i4 i5 j1 j2 j3 ⊢
  go_enter Tryz.func87, Tryz.ntmps87
  go_wp2_with fail
  go_quiet (fail)
  go_wp2_with fail
  obtain ⟨w2, hup, hown2, hturn2⟩ := HST.out (nq + 1)
  have HM2 := Lib.hid hown2; have HT2 := Lib.hid hturn2
  have HF2 := Lib.hid (HFAR.out _ _ hturn2)
  obtain ⟨k1, k2, k3, k4, k5, k6⟩ := HF2.out.1
  have k7 := k6 (.cells #[.int .i64 o, .int .i64 eb, .int .i64 ec, .int .i64 en] 162)
  clear k6
  clear hown1 hown hat hturn2 hown2 hL hw
  go_region
  go_wp2_with fail
  have hz2l : w2.heap.size ≤ w2.heap.size := Nat.le_refl _
  go_region_law ((refine step_append_lies _ rfl (.tmp 75) (.tmp 79) 84 rfl 0 162 i0 z0 4 32 Tryz.underlying84 hi hz0 hz1 hz2 hz3 (by decide) dv k.due.length (casesE k.due) rfl (HF2.out.2.1 1 _) ⟨_, 0, none⟩ 1 1 (caseE (o, ⟨eb, ec, en⟩)) rfl rfl (World.news_of_block (heap_alloc_new _ _)) (by intro u hu; simp [caseE] at hu; rcases hu with rfl | rfl | rfl | rfl <;> rfl) (by decide) (by unfold maxLen; omega) (by omega) (Nat.zero_le _) _ rfl ?_; intro g cap w3 ho3 hg3 hor hlt3; obtain ⟨m1, m2⟩ := HF2.out.2.2 1 _ _ hg3))
  all_goals
    have hend := HFIN.out 1 (nq + 1) g cap w2 w3 _ HT2.out HM2.out hg3 ho3 (by simpa using hor) hlt3
    have HEND := Lib.hid hend
    clear hend ho3 hg3 hor hlt3
    go_wp2_with fail
    go_ret
    exact ⟨rfl, HEND.out⟩

theorem court_Accuse (A : Nat → Addr) (S : List Nat) (kb : Nat) (F : Nat → Prop) (n : Nat) (k : KS) (o : Int) (e : EV) (cy : Int) (w : World) (h : CourtAt kb F n k w) (hE : Errs A S w) (h2 : 2 ∈ S) (h5 : 5 ∈ S) (h10 : 10 ∈ S) (hw : e.wf) (hn : n ≤ 1000000) (hk : k.L.length ≤ 1000000) :
    Calls Tryz.prog 87 #[.pointer (some ⟨kb, 0, none⟩), .int .i64 o, evV e, .int .i64 cy] w fun y w' => y = .returned (ev A (k.accuse o e cy).1) ∧ CourtP kb F (n + 1) (k.accuse o e cy).2 w w' := by
  by_cases hc : k.code o e cy = 0
  · rw [KS.acc_ok hc]
    exact court_Accuse_yes A S kb F n k o e cy w h hE h2 h5 h10 hw hn hk hc
  · rw [KS.acc_bad rfl hc]
    exact (court_Accuse_no A S kb F n k o e cy w h hE h2 h5 h10 hw hc).mono fun y w' ⟨a, b1, b2⟩ => ⟨a, b1, b2.mono (Nat.le_succ n)⟩

set_option maxRecDepth 8000 in
/-- a copy of cases -/
theorem cases_Clone (dv : Value) (l : List (Int × EV)) (w : World) (h : w.ownsRow 0 162 4 dv l.length (casesE l)) (hl : l.length ≤ 1000000) :
    Calls Tryz.prog 165 #[dv] w fun y w' => ∃ v', y = .returned v' ∧ w'.ownsRow w.heap.size 162 4 v' l.length (casesE l) ∧ Below w.heap.size w w' := by
  obtain ⟨i0, z0, hi, hz0, hz1, hz2, hz3⟩ := info_case
  have q : ∀ (w : World) (a : Option Addr) (n c n' c' : Nat), (binOp .eql 84 (.slice a n c) (.slice none n' c')).run Tryz.prog w = .ok (.bool a.isNone) w := fun w a n c n' c' => Lib.run_eql_slice_nil w _ _ a n c n' c' Tryz.underlying84
  have u : ∀ w, Sem.run Tryz.prog (underlying 84) w = .ok (TypeDesc.slice 162) w := run_underlying Tryz.underlying84
  have HO := Lib.hid h
  obtain ⟨h1, h2⟩ := h
  rcases h2 with ⟨rfl, hn⟩ | ⟨g, cap, cur, rfl, hb, hg, hnc, hcm, hcs, ht⟩
  · have : l = [] := List.eq_nil_of_length_eq_zero hn
    subst this
    go_enter Tryz.func165, Tryz.ntmps165
    go_wp2
    go_ret
    exact ⟨_, rfl, World.ownsRow_nil _ _ _ _, Below.refl _ _⟩
  · have hcells := HO.out.cells (g := g) rfl
    have HC := Lib.hid hcells
    have HG := Lib.hid hg
    have H1 := Lib.hid h1
    clear hcells hg hcs ht h1
    go_enter Tryz.func165, Tryz.ntmps165
    go_wp2_with (at_builtin; refine wpList_append_own _ rfl _ _ 84 rfl w.heap.size 162 i0 z0 4 32 Tryz.underlying84 hi hz0 hz1 hz2 hz3 (by decide) _ _ _ rfl (World.ownsRow_made w #[] 0 (Nat.le_refl _) (Nat.zero_le _) rfl) ⟨g, 0, none⟩ l.length cap (casesE l) rfl ?qc1 ?qc2 ?qc3 ?qc4 ?qc5 ?qc6 ?_)
    case qc1 => exact H1.out
    case qc2 => exact fun j u hj => Lib.cell?_alloc_some _ (HC.out j u hj)
    case qc3 =>
      intro u hu
      unfold casesE at hu
      obtain ⟨x, _, hx⟩ := List.mem_flatMap.1 hu
      simp [caseE] at hx
      rcases hx with rfl | rfl | rfl | rfl <;> rfl
    case qc4 => unfold maxLen; omega
    case qc5 => omega
    case qc6 => simp
    intro v' w1 hown hgrow hnil
    go_wp2
    go_ret
    exact ⟨v', rfl, by simpa using hown, ((Below.refl _ w).alloc (Nat.le_refl _) _).grown hgrow (by simp) (by intro k hk; simp [Value.ownBlock] at hk; omega)⟩

set_option maxRecDepth 8000 in
theorem court_Due (kb : Nat) (F : Nat → Prop) (n : Nat) (k : KS) (w : World) (h : CourtAt kb F n k w) (hk : k.L.length ≤ 1000000) :
    Calls Tryz.prog 138 #[.pointer (some ⟨kb, 0, none⟩)] w fun y w' => ∃ v', y = .returned v' ∧ w'.ownsRow w.heap.size 162 4 v' k.due.length (casesE k.due) ∧ Keep F w w' ∧ CourtAt kb F n k.asked w' := by
  obtain ⟨mb, dv, hL, hF1, hF2, hF3, hlt⟩ := h
  have hdl : k.due.length ≤ 1000000 := by unfold KS.due; rw [List.length_drop]; omega
  have c1 : w.cell? ⟨kb, 1, none⟩ = some dv := hL.row.cell 1
  have HCL := Lib.hid (fun wx (hx : Below w.heap.size w wx) => cases_Clone dv k.due wx (hL.keep (G := fun _ => False) (Keep.of_below hx) id id (fun _ _ => id)).due hdl)
  have HFIN := Lib.hid (show ∀ wx v', Below w.heap.size w wx → wx.ownsRow w.heap.size 162 4 v' k.due.length (casesE k.due) → (wx.cell? ⟨kb, 1, none⟩ = some dv ∧ wx.frozen? ⟨kb, 1, none⟩ = false) ∧ ∀ i,
      ((wx.drewN i).setCell ⟨kb, 1, none⟩ (.slice none 0 0)).ownsRow w.heap.size 162 4 v' k.due.length (casesE k.due) ∧ Keep F w ((wx.drewN i).setCell ⟨kb, 1, none⟩ (.slice none 0 0)) ∧ CourtAt kb F n k.asked ((wx.drewN i).setCell ⟨kb, 1, none⟩ (.slice none 0 0)) by
    intro wx v' hb ho
    have hL1 : CourtL kb mb dv n k wx := hL.keep (G := fun _ => False) (Keep.of_below hb) id id (fun _ _ => id)
    refine ⟨⟨hL1.row.cell 1, hL1.row.frozen 1⟩, fun i => ?_⟩
    have KE := ((Keep.of_below (F := F) hb).drewN i).setCell (p := ⟨kb, 1, none⟩) (.inl hF1) (.slice none 0 0)
    have hkb := hlt _ hF1
    refine ⟨ownsRow_other ho (fun g hg => Below.heap_setCell (wx.drewN i) _ _ _ (show g ≠ kb from fun e => ?_)), KE, mb, .slice none 0 0, ⟨(hL1.row.drewN i).set 1 _, hL.ne, ?_, ?_, by simp [Value.ownBlock], by simp [Value.ownBlock], hL.wf, Nat.le_refl _⟩, hF1, hF2, (fun g hg => by cases hg), fun b hb' => Nat.lt_of_lt_of_le (hlt b hb') KE.size⟩
    · rcases ho.2 with ⟨hv, _⟩ | ⟨g', cap, cur, hv, hb', _⟩
      · rw [hv] at hg; cases hg
      · rw [hv] at hg; simp [Value.ownBlock] at hg; omega
    · obtain ⟨D, ⟨es, clock, q1, q2⟩, q3⟩ := hL1.map
      exact ⟨D, ⟨es, clock, by rw [Below.heap_setCell _ _ _ _ (show mb ≠ kb from fun e => hL.ne e.symm)]; exact q1, q2⟩, q3⟩
    · have : k.asked.due = [] := by unfold KS.asked KS.due; simp
      rw [this]; exact World.ownsRow_nil _ _ _ _)
  clear hL hF1 hF2 hF3 hlt
  go_enter Tryz.func138, Tryz.ntmps138
  go_wp2_with fail
  refine (HCL.out _ (Below.refl _ _)).mono ?_
  rintro e w1 ⟨v', rfl, ho, hb⟩
  obtain ⟨⟨m1, m2⟩, hend⟩ := HFIN.out w1 v' hb ho
  have HEND := Lib.hid (hend 0)
  clear hend ho hb
  go_wp2_with fail
  go_ret
  exact ⟨v', rfl, HEND.out⟩
end Go.Proofs.YtajnfkmkombajabGreatDoor
