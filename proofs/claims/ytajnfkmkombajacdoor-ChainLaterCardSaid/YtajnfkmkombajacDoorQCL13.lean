/-
  A slice of structs that came in: it reads as a list of plain data. (The first lemma is a block of the guide's page on structs, to be copied.)
  Package court in memory: New, Accuse, Due, Percent, Share.
  append of one row onto another, both slices of the call's own; where the new slice lies; rows that read as data. No program in sight.
  Package court in memory: Accuse, Due.
  Package court in memory: Accuse where nothing is wrong; a copy of cases; Due.
-/
import Derived.Test.YtajnfkmkombajacDoorQCL01
import Derived.Deep.Slices
import Derived.Deep.Fields
import Derived.ChangeSame
import Derived.OpenShut
import Derived.Sort.WalkA
import Derived.Test.YtajnfkmkombajacDoorQCL12
import Derived.Test.YtajnfkmkombajacDoorQCL06
import Derived.Deep.RegionWith
import Derived.Deep.QuietTactic
import Derived.BigQuiet
import Derived.Maps.AppendAt
import Derived.Laws.AppendOwnNone
import Derived.Test.YtajnfkmkombajacDoorQCL02
import Derived.Deep.RegionLaw
import Derived.Deep.AppendLies
import Derived.Lib.Walk
import Derived.Lib.SliceRun
set_option linter.unusedVariables false
set_option linter.unusedSimpArgs false
namespace Go.Proofs.YtajnfkmkombajacDoor
open Go.RowKit Go.ChangeShapes Go.WideShapes Go.Deep

section
variable {H : Type} {enc : TypeId × Value → H} {P : Program} {w : World} {base : Nat} {spare : Nat → Bool} {held : Bool}
theorem open_slice_fields {t e : TypeId} {fs : Array Field} {fuel : Nat} {cs : List Value} {x : DataW H × List MemPlace} (ht : P.underlying t = some (.slice e)) (he : P.underlying e = some (.struct fs))
    (hone : oneCellFields P fs = true) (hC : P.cellsOf e = fs.size) (h : DataW.trod enc P w base spare held fuel t cs = some x) :
    (cs = [.slice none 0 0] ∧ x = (.nil, [])) ∨
    ∃ (a : Addr) (len cap m : Nat) (D : Nat → DataW H) (Pl : Nat → List MemPlace), cs = [.slice (some a) len cap] ∧ base ≤ a.block ∧ len ≤ cap ∧ cap ≤ maxLen ∧ m = (if spare a.block then cap else len) ∧
      x = (.slice ((List.range len).map D) ((List.range (m - len)).map fun j => D (len + j)), MemPlace.row a (m * fs.size) ++ (List.range m).flatMap Pl) ∧
      ∀ i, i < m → ∃ (ys : List (DataW H × List MemPlace)) (n : Nat), D i = .agg (ys.map (·.1)) ∧ Pl i = ys.flatMap (·.2) ∧ ys.length = fs.size ∧
        ∀ (j : Nat) (f : Field), fs[j]? = some f → ∃ (v : Value) (y : DataW H × List MemPlace), w.cell? (a.add (i * fs.size + j)) = some v ∧ ys[j]? = some y ∧ DataW.trod enc P w base spare held n f.type [v] = some y := by
  rcases open_slice ht h with h0 | ⟨a, len, cap, m, n, D, Pl, hcs, hb, hl, hm, hmm, hx, hi⟩
  · exact .inl h0
  · refine .inr ⟨a, len, cap, m, D, Pl, hcs, hb, hl, hm, hmm, by rw [hC] at hx; exact hx, fun i him => ?_⟩
    obtain ⟨cs', hc, ht'⟩ := hi i him
    rw [hC] at hc
    obtain ⟨ys, n', hn', hy, hlen, hyl, hf⟩ := DataW.trod_struct he ht'
    obtain ⟨_, hcl, hat⟩ := World.cells?_some hc
    simp only [Prod.mk.injEq] at hy
    refine ⟨ys, n', hy.1, hy.2, hyl, fun j f hj => ?_⟩
    obtain ⟨ho, hk⟩ := hone_of hone j f hj
    have hjl : j < fs.size := (Array.getElem?_eq_some_iff.1 hj).1
    have hcell := hat j hjl
    have hv : cs'[j]? = some (cs'[j]'(by omega)) := List.getElem?_eq_getElem (by omega)
    have h1 := hf j f hj
    rw [ho, hk] at h1
    have hone' : (cs'.drop j).take 1 = [cs'[j]'(by omega)] := by
      rw [List.drop_eq_getElem_cons (by omega)]
      rfl
    rw [hone'] at h1
    have hys : ys[j]? = some (ys[j]'(by omega)) := List.getElem?_eq_getElem (by omega)
    refine ⟨_, _, ?_, hys, h1.trans hys⟩
    rw [← Go.Deep.add_add, hcell, hv]
end

/-- the slice '.slice ao len cap' reads, in w, as the data l, each of C cells -/
structure RdR {α : Type} (enc : α → List Value) (C : Nat) (w : World) (ao : Option Addr) (len cap : Nat) (l : List α) : Prop where
  size : l.length = len
  lc : len ≤ cap
  cm : cap ≤ maxLen
  nul : ao = none → cap = 0
  cells : ∀ i x, l[i]? = some x → ∃ b off, ao = some ⟨b, off, none⟩ ∧ b < w.heap.size ∧ ∀ j, j < C → w.cell? ⟨b, off + i * C + j, none⟩ = (enc x)[j]?

section
variable {α : Type} {enc : α → List Value} {C : Nat} {w w' : World} {ao : Option Addr} {len cap : Nat} {l : List α}

theorem RdR.below (h : RdR enc C w ao len cap l) (hb : Below w.heap.size w w') : RdR enc C w' ao len cap l := by
  refine ⟨h.size, h.lc, h.cm, h.nul, fun i x hx => ?_⟩
  obtain ⟨b, off, ha, hl, hc⟩ := h.cells i x hx
  exact ⟨b, off, ha, Nat.lt_of_lt_of_le hl hb.size, fun j hj => by rw [hb.cell (p := ⟨b, _, none⟩) hl]; exact hc j hj⟩

theorem list_choose {α : Type} {Q : Nat → α → Prop} : ∀ n, (∀ i, i < n → ∃ x, Q i x) → ∃ l : List α, l.length = n ∧ ∀ i x, l[i]? = some x → Q i x
  | 0, _ => ⟨[], rfl, fun i x h => by simp at h⟩
  | n + 1, h => by
    obtain ⟨l, hl, hq⟩ := list_choose n (fun i hi => h i (by omega))
    obtain ⟨y, hy⟩ := h n (by omega)
    refine ⟨l ++ [y], by simp [hl], fun i x hx => ?_⟩
    rw [List.getElem?_append] at hx
    split at hx
    · exact hq i x hx
    · next hge =>
      have : i - l.length = 0 := by
        rcases Nat.eq_zero_or_pos (i - l.length) with h0 | h0
        · exact h0
        · rw [List.getElem?_eq_none (by simp; omega)] at hx; cases hx
      rw [this] at hx
      cases hx
      have : i = n := by omega
      subst this; exact hy

/-- out of the cells -/
theorem RdR.of_cells {a : Addr} {Q : α → Prop} (hC : 0 < C) (hl : len ≤ cap) (hm : cap ≤ maxLen)
    (h : ∀ i, i < len → ∃ x, (∀ j, j < C → w.cell? (a.add (i * C + j)) = (enc x)[j]?) ∧ C ≤ (enc x).length ∧ Q x) : ∃ l, RdR enc C w (some a) len cap l ∧ ∀ x ∈ l, Q x := by
  obtain ⟨l, hlen, hq⟩ := list_choose len h
  refine ⟨l, ⟨hlen, hl, hm, fun h => (by cases h), fun i x hx => ?_⟩, fun x hx => ?_⟩
  · obtain ⟨h1, h2, _⟩ := hq i x hx
    have h00 := h1 0 hC
    rw [List.getElem?_eq_getElem (show 0 < (enc x).length by omega)] at h00
    have hs : (a.add (i * C + 0)).spot = none := World.cell?_spot h00
    have hblk := World.block_lt_of_cell? w _ h00
    obtain ⟨b, off, spot⟩ := a
    have hs0 : spot = none := by
      by_cases h0 : i * C = 0
      · rw [h0] at hs; simpa [Addr.add] using hs
      · have hi0 : 0 < len := by have := (List.getElem?_eq_some_iff.1 hx).1; omega
        obtain ⟨x0, hx0⟩ : ∃ x0, l[0]? = some x0 := ⟨_, List.getElem?_eq_getElem (by omega)⟩
        obtain ⟨z1, z2, _⟩ := hq 0 x0 hx0
        have := z1 0 hC
        rw [List.getElem?_eq_getElem (show 0 < (enc x0).length by omega)] at this
        have h0c := World.cell?_spot this; simpa [Addr.add] using h0c
    subst hs0
    have e : ∀ j, (⟨b, off, none⟩ : Addr).add j = ⟨b, off + j, none⟩ := fun j => by unfold Addr.add; split <;> simp_all
    rw [e] at hblk
    exact ⟨b, off, rfl, hblk, fun j hj => by rw [← h1 j hj, e, Nat.add_assoc]⟩
  · obtain ⟨i, hi⟩ := List.getElem?_of_mem hx
    exact (hq i x hi).2.2
theorem RdR.nil (enc : α → List Value) (C : Nat) (w : World) : RdR enc C w none 0 0 [] := ⟨rfl, Nat.le_refl _, by decide, fun _ => rfl, fun i x h => by simp at h⟩
end
end Go.Proofs.YtajnfkmkombajacDoor
namespace Go.Proofs.YtajnfkmkombajacDoor
open Go.RowKit Go.Maps

/-- a case's cells -/
def caseE (x : Int × EV) : List Value := [.int .i64 x.1, .int .i64 x.2.b, .int .i64 x.2.c, .int .i64 x.2.n]
def casesE (l : List (Int × EV)) : List Value := l.flatMap caseE
theorem casesE_length (l : List (Int × EV)) : (casesE l).length = l.length * 4 := by
  induction l with
  | nil => rfl
  | cons x l ih => unfold casesE at ih ⊢; rw [List.flatMap_cons, List.length_append, ih]; simp [caseE]; omega
theorem casesE_snoc (l : List (Int × EV)) (x : Int × EV) : casesE (l ++ [x]) = casesE l ++ caseE x := by simp [casesE]
def KS.has (k : KS) (e : EV) : Bool := k.L.any (fun x => decide (x.2 = e))

structure CourtL (kb mb : Nat) (dv : Value) (n : Nat) (k : KS) (w : World) : Prop where
  row : RowAt kb 91 [.map (some mb), dv] w
  ne : kb ≠ mb
  map : ∃ D : DataW Unit, w.ownsMap Tryd.prog 128 (plainElem Tryd.prog 4) mb n D ∧ ∀ e : EV, e.wf → D.atKey (evK e) (.lit (.bool false)) = .lit (.bool (k.has e))
  due : w.ownsRow 0 130 4 dv k.due.length (casesE k.due)
  dk : dv.ownBlock ≠ some kb
  dm : dv.ownBlock ≠ some mb
  wf : ∀ x ∈ k.L, x.2.wf
  done : k.done ≤ k.L.length
/-- block kb is a court that holds k, among the blocks F -/
def CourtAt (kb : Nat) (F : Nat → Prop) (n : Nat) (k : KS) (w : World) : Prop := ∃ mb dv, CourtL kb mb dv n k w ∧ F kb ∧ F mb ∧ (∀ g, dv.ownBlock = some g → F g) ∧ ∀ b, F b → b < w.heap.size
def CourtP (kb : Nat) (F : Nat → Prop) (n : Nat) (k : KS) (w w' : World) : Prop := Keep F w w' ∧ CourtAt kb (grownF F w w') n k w'

section
variable {kb mb n : Nat} {dv : Value} {k : KS} {F G : Nat → Prop} {w w' : World}
theorem CourtL.keep (h : CourtL kb mb dv n k w) (K : Keep G w w') (h1 : ¬ G kb) (h2 : ¬ G mb) (h3 : ∀ g, dv.ownBlock = some g → ¬ G g) : CourtL kb mb dv n k w' := by
  obtain ⟨D, ⟨es, clock, e1, e2⟩, h5⟩ := h.map
  refine ⟨h.row.keep K h1, h.ne, ⟨D, ⟨es, clock, K.heap e1 h2, e2⟩, h5⟩, ?_, h.dk, h.dm, h.wf, h.done⟩
  obtain ⟨l1, l2⟩ := h.due
  refine ⟨l1, ?_⟩
  rcases l2 with l2 | ⟨g, cap, cur, hv, hb, hg, r⟩
  · exact .inl l2
  · exact .inr ⟨g, cap, cur, hv, hb, K.heap hg (h3 g (by rw [hv]; rfl)), r⟩
theorem CourtAt.keep (h : CourtAt kb F n k w) (K : Keep G w w') (hG : ∀ b, F b → ¬ G b) : CourtAt kb F n k w' := by
  obtain ⟨mb, dv, h1, h2, h3, h4, h5⟩ := h
  exact ⟨mb, dv, h1.keep K (hG _ h2) (hG _ h3) (fun g hg => hG _ (h4 g hg)), h2, h3, h4, fun b hb => Nat.lt_of_lt_of_le (h5 b hb) K.size⟩
theorem CourtAt.below (h : CourtAt kb F n k w) (K : Below w.heap.size w w') : CourtAt kb F n k w' := h.keep (G := fun _ => False) (Keep.of_below K) (fun _ _ => id)
theorem CourtAt.foot (h : CourtAt kb F n k w) (hG : ∀ b, F b → G b) (hlt : ∀ b, G b → b < w.heap.size) : CourtAt kb G n k w := by
  obtain ⟨mb, dv, h1, h2, h3, h4, h5⟩ := h
  exact ⟨mb, dv, h1, hG _ h2, hG _ h3, fun g hg => hG _ (h4 g hg), hlt⟩
theorem CourtAt.lt (h : CourtAt kb F n k w) : ∀ b, F b → b < w.heap.size := by obtain ⟨mb, dv, h1, h2, h3, h4, h5⟩ := h; exact h5
theorem CourtAt.mono (h : CourtAt kb F n k w) {m : Nat} (hm : n ≤ m) : CourtAt kb F m k w := by
  obtain ⟨mb, dv, h1, h2⟩ := h
  obtain ⟨D, h3, h4⟩ := h1.map
  exact ⟨mb, dv, ⟨h1.row, h1.ne, ⟨D, h3.mono hm, h4⟩, h1.due, h1.dk, h1.dm, h1.wf, h1.done⟩, h2⟩
theorem CourtP.of_below (h : CourtAt kb F n k w) (hb : Below w.heap.size w w') : CourtP kb F n k w w' :=
  ⟨Keep.of_below hb, (h.below hb).foot (fun _ hk => .inl hk) (grownF_lt (fun _ hk => h.lt _ hk) hb.size)⟩
end

theorem court_Percent (n : Int) (w : World) : Calls Tryd.prog 88 #[.int .i64 n] w fun e w' => e = .returned (.int .i64 (pct n)) ∧ w = w' := by
  by_cases h : n.tmod 2 = 0
  · have e : pct n = 5 := if_pos h
    rw [e]
    go_enter Tryd.func88, Tryd.ntmps88
    go_wp2
    go_ret
    exact ⟨rfl, rfl⟩
  · have e : pct n = 50 := if_neg h
    rw [e]
    go_enter Tryd.func88, Tryd.ntmps88
    go_wp2
    go_ret
    exact ⟨rfl, rfl⟩

def shareA (n : Int) : Int := if n < 0 then 0 else n / 7
def shareB (n : Int) : Int := if n < 0 then 0 else n - n / 7
theorem court_Share (n : Int) (hn : n ≤ 9223372036854775807) (w : World) : Calls Tryd.prog 89 #[.int .i64 n] w fun e w' => e = .returned (.tuple #[.int .i64 (shareA n), .int .i64 (shareB n)]) ∧ w = w' := by
  by_cases h : n < 0
  · have e1 : shareA n = 0 := if_pos h
    have e2 : shareB n = 0 := if_pos h
    rw [e1, e2]
    go_enter Tryd.func89, Tryd.ntmps89
    go_wp2
    go_ret2
    exact ⟨rfl, rfl⟩
  · have h0 : 0 ≤ n := by omega
    have e0 : n.tdiv 7 = n / 7 := Int.tdiv_eq_ediv_of_nonneg h0
    have e1 : shareA n = n / 7 := if_neg h
    have e2 : shareB n = n - n / 7 := if_neg h
    rw [e1, e2]
    have b0 : 0 ≤ n / 7 := Int.ediv_nonneg h0 (by decide)
    have b1 : n / 7 ≤ n := by omega
    clear e1 e2 h
    generalize n / 7 = m at *
    go_enter Tryd.func89, Tryd.ntmps89
    go_wp2
    go_ret2
    exact ⟨rfl, rfl⟩

theorem court_New (w : World) : Calls Tryd.prog 40 #[] w fun e w' => e = .returned (.pointer (some ⟨w.heap.size + 1, 0, none⟩)) ∧ Below w.heap.size w w' ∧ CourtAt (w.heap.size + 1) (fun b => b = w.heap.size ∨ b = w.heap.size + 1) 0 KS.new w' := by
  have hmm := @run_makeMap Tryd.prog
  go_enter Tryd.func40, Tryd.ntmps40
  go_wp2
  go_ret
  refine ⟨by simp, ((Below.refl _ _).alloc (Nat.le_refl _) _).alloc (by simp) _, w.heap.size, .slice none 0 0, ⟨?_, by omega, ⟨.map [], (World.ownsMap_made w _ _ _).alloc _, fun e he => ?_⟩, World.ownsRow_nil _ _ _ _, by simp [Value.ownBlock], by simp [Value.ownBlock], (fun x hx => by cases hx), Nat.le_refl _⟩, .inr rfl, .inl rfl, (fun g hg => by cases hg), fun b hb => by simp; omega⟩
  · have := RowAt.new (w.alloc (.map #[] 0)) 91 [.map (some w.heap.size), .slice none 0 0]
    have hs : (w.alloc (.map #[] 0)).heap.size = w.heap.size + 1 := by simp
    rw [hs] at this
    exact this
  · rw [atKey_of_not_has (by rfl)]; rfl
end Go.Proofs.YtajnfkmkombajacDoor
namespace Go.Proofs.YtajnfkmkombajacDoor
open Go.RowKit

theorem ownsRow_other {base e size n : Nat} {v : Value} {xs : List Value} {w w' : World} (h : w.ownsRow base e size v n xs) (hk : ∀ g, v.ownBlock = some g → w'.heap[g]? = w.heap[g]?) : w'.ownsRow base e size v n xs := by
  obtain ⟨l1, l2⟩ := h
  refine ⟨l1, ?_⟩
  rcases l2 with l2 | ⟨g, cap, cur, hv, hb, hg, r⟩
  · exact .inl l2
  · exact .inr ⟨g, cap, cur, hv, hb, by rw [hk g (by rw [hv]; rfl)]; exact hg, r⟩

theorem run_append_row {P : Program} (w : World) (t ty : TypeId) (base : Nat) (e : TypeId) (i : TypeInfo) (z : Value) (size bytes : Nat) (ht : P.underlying t = some (.slice e)) (hi : P.info? e = some i) (hz : i.zero = some z)
    (hsize : i.size = size) (hby : i.bytes = bytes) (hzs : z.cells.size = size) (hsz : 0 < size) (v : Value) (n : Nat) (xs : List Value) (hown : w.ownsRow base e size v n xs)
    (b2 : Nat) (xv : Value) (m : Nat) (news : List Value) (hx : w.ownsRow b2 e size xv m news) (h1 : ∀ u ∈ news, u.oneCell' = true) (h63 : n + m ≤ maxLen) (hbytes : (n + m) * bytes ≤ 140737488355328) (hbase : base ≤ w.heap.size) :
    ∃ v' w', (Builtin.append_ #[t, t] ty #[v, xv]).run P w = .ok v' w' ∧ w'.ownsRow base e size v' (n + m) (xs ++ news) ∧ w.grownBy w' v.ownBlock ∧ (v'.ownBlock = v.ownBlock ∨ v'.ownBlock = some w.heap.size) := by
  rcases hx.2 with ⟨rfl, rfl⟩ | ⟨g, cap, cur, rfl, _⟩
  · have hn : news = [] := List.eq_nil_of_length_eq_zero (by simpa using hx.1)
    subst hn
    exact ⟨v, w, run_append_owned_none (P := P) (w := w) base t ty e i size ht hi v n xs hown, by simpa using hown, ⟨rfl, rfl, rfl, Nat.le_refl _, fun _ _ _ => rfl⟩, .inl rfl⟩
  · obtain ⟨v', w', hr, a, b, _, c⟩ := run_append_own_at (P := P) w base t ty e i z size bytes ht hi hz hsize hby hzs hsz v n xs hown ⟨g, 0, none⟩ m cap news hx.1 (hx.cells (g := g) rfl) h1 h63 hbytes hbase
    exact ⟨v', w', hr, a, b, c⟩

theorem wpList_append_row {P : Program} (w : World) {ops : Array Oper} {rest : List Oper} {o : Oper} {a : Act} {Q : Exit → Act → World → Prop} (hgd : o.guard = none) (s x : Operand) (t : TypeId)
    (ho : o.op = .call { callee := .builtin .append, args := #[s, x], argTypes := #[t, t] })
    (base : Nat) (e : TypeId) (i : TypeInfo) (z : Value) (size bytes : Nat) (ht : P.underlying t = some (.slice e)) (hi : P.info? e = some i) (hz : i.zero = some z)
    (hsize : i.size = size) (hby : i.bytes = bytes) (hzs : z.cells.size = size) (hsz : 0 < size) (v : Value) (n : Nat) (xs : List Value) (hs : a.eval s = v) (hown : w.ownsRow base e size v n xs)
    (b2 : Nat) (xv : Value) (m : Nat) (news : List Value) (hx : a.eval x = xv) (hxo : w.ownsRow b2 e size xv m news) (h1 : ∀ u ∈ news, u.oneCell' = true) (h63 : n + m ≤ maxLen) (hbytes : (n + m) * bytes ≤ 140737488355328) (hbase : base ≤ w.heap.size)
    (h : ∀ v' w', w'.ownsRow base e size v' (n + m) (xs ++ news) → w.grownBy w' v.ownBlock → (v'.ownBlock = v.ownBlock ∨ v'.ownBlock = some w.heap.size) → wpList P ops Q rest (a.put o.dst v') w') : wpList P ops Q (o :: rest) a w := by
  refine wpList_plain hgd fun K hK => ?_
  obtain ⟨v', w', hr, h2, h3, h4⟩ := run_append_row (P := P) w t o.type base e i z size bytes ht hi hz hsize hby hzs hsz v n xs hown b2 xv m news hxo h1 h63 hbytes hbase
  unfold Oper.wp execOp
  simp only [ho, resolve, invoke, builtin, Sem.run_bind, Sem.run_pure, Result.andThen_ok, List.map_toArray, List.map_cons, List.map_nil, hs, hx, hr]
  exact hK _ _ (h v' w' h2 h3 h4)

/-- at a step of a region that draws its order: whatever is appended, be it nothing -/
theorem step_append_at {P : Program} {ops : Array Oper} {o : Oper} {a : Act} {w : World} {K : Act → World → Prop} {Q : Exit → Act → World → Prop} {E : Prop} (hgd : o.guard = none) (s x : Operand) (t : TypeId)
    (ho : o.op = .call { callee := .builtin .append, args := #[s, x], argTypes := #[t, t] })
    (base : Nat) (e : TypeId) (i : TypeInfo) (z : Value) (size bytes : Nat) (ht : P.underlying t = some (.slice e)) (hi : P.info? e = some i) (hz : i.zero = some z)
    (hsize : i.size = size) (hby : i.bytes = bytes) (hzs : z.cells.size = size) (hsz : 0 < size) (v : Value) (n : Nat) (xs : List Value) (hs : a.eval s = v) (hown : w.ownsRow base e size v n xs)
    (ad : Addr) (m c : Nat) (news : List Value) (hx : a.eval x = .slice (some ad) m c) (hl : news.length = m * size) (hnews : ∀ j u, news[j]? = some u → w.cell? (ad.add j) = some u) (h1 : ∀ u ∈ news, u.oneCell' = true)
    (h63 : n + m ≤ maxLen) (hbytes : (n + m) * bytes ≤ 140737488355328) (hbase : base ≤ w.heap.size)
    (h : ∀ v' w', w'.ownsRow base e size v' (n + m) (xs ++ news) → w.grownBy w' v.ownBlock → (v'.ownBlock = v.ownBlock ∨ v'.ownBlock = some w.heap.size) → K (a.put o.dst v') w') :
    if Region.wanted o (yielded ops a.tmps) = true then Oper.wp P o a w K Q else E := by
  have hw : Region.wanted o (yielded ops a.tmps) = true := by simp [Region.wanted, hgd]
  rw [if_pos hw]
  obtain ⟨v', w', hr, h2, h3, _, h4⟩ := run_append_own_at (P := P) w base t o.type e i z size bytes ht hi hz hsize hby hzs hsz v n xs hown ad m c news hl hnews h1 h63 hbytes hbase
  unfold Oper.wp execOp
  simp only [ho, resolve, invoke, builtin, Sem.run_bind, Sem.run_pure, Result.andThen_ok, List.map_toArray, List.map_cons, List.map_nil, hs, hx, hr]
  exact h v' w' h2 h3 h4

section
variable {α : Type} {enc : α → List Value} {C : Nat}
theorem flatMap_get (hC : ∀ x, (enc x).length = C) : ∀ (l : List α) (i : Nat) (x : α), l[i]? = some x → ∀ j, j < C → (l.flatMap enc)[i * C + j]? = (enc x)[j]?
  | [], i, x, h, _, _ => by simp at h
  | y :: l, 0, x, h, j, hj => by
    simp at h; subst h
    rw [List.flatMap_cons, Nat.zero_mul, Nat.zero_add, List.getElem?_append_left (by rw [hC]; exact hj)]
  | y :: l, i + 1, x, h, j, hj => by
    rw [List.flatMap_cons, List.getElem?_append_right (by rw [hC, Nat.succ_mul]; omega), hC, show (i + 1) * C + j - C = i * C + j by rw [Nat.succ_mul]; omega]
    exact flatMap_get hC l i x (by simpa using h) j hj
theorem flatMap_len (hC : ∀ x, (enc x).length = C) : ∀ l : List α, (l.flatMap enc).length = l.length * C
  | [] => by simp
  | y :: l => by rw [List.flatMap_cons, List.length_append, hC, flatMap_len hC l, List.length_cons, Nat.succ_mul]; omega
/-- a row of the call's own that holds data reads as the data -/
theorem RdR.of_row {w : World} {base e : Nat} {ao : Option Addr} {len cap : Nat} {l : List α} (hC : ∀ x, (enc x).length = C) (h0 : 0 < C) (h : w.ownsRow base e C (.slice ao len cap) len (l.flatMap enc)) : RdR enc C w ao len cap l := by
  have hl : l.length = len := by
    have := h.1; rw [flatMap_len hC] at this
    exact Nat.eq_of_mul_eq_mul_right h0 this
  rcases h.2 with ⟨hv, hn⟩ | ⟨g, cap', cur, hv, hb, hg, hnc, hcm, _, _⟩
  · cases hv
    have : l = [] := List.eq_nil_of_length_eq_zero (by omega)
    subst this
    exact RdR.nil _ _ _
  · cases hv
    refine ⟨hl, hnc, hcm, fun h => (by cases h), fun i x hx => ⟨g, 0, rfl, lt_of_block hg, fun j hj => ?_⟩⟩
    have hcell := flatMap_get hC l i x hx j hj
    have hj' : j < (enc x).length := by rw [hC]; exact hj
    rw [List.getElem?_eq_getElem hj'] at hcell ⊢
    have := h.cells (g := g) rfl _ _ hcell
    rw [Addr.add_lit, Nat.zero_add] at this
    rw [Nat.zero_add]; exact this
end
end Go.Proofs.YtajnfkmkombajacDoor
namespace Go.Proofs.YtajnfkmkombajacDoor
open Go.RowKit Go.Maps

theorem KS.code_of {k : KS} {o : Int} {e : EV} {cy : Int} (h1 : ownB o = true) (h2 : 0 ≤ e.b ∧ e.b < 3) (h3 : 0 ≤ e.n) (h4 : 0 ≤ cy ∧ cy ≤ 1048576) : k.code o e cy = if cy < e.c ∨ e.c < cy - 2 ∨ e.c < 0 then 10 else if k.has e then 5 else 0 := by
  unfold KS.code KS.has; rw [if_neg (by simp [h1]; omega)]
theorem KS.acc_bad {k : KS} {o : Int} {e : EV} {cy : Int} {c : Nat} (h : k.code o e cy = c) (hc : c ≠ 0) : k.accuse o e cy = (c, k) := by unfold KS.accuse; rw [if_pos (by rw [h]; exact hc), h]
theorem KS.acc_ok {k : KS} {o : Int} {e : EV} {cy : Int} (h : k.code o e cy = 0) : k.accuse o e cy = (0, ⟨k.L ++ [(o, e)], k.done⟩) := by unfold KS.accuse; rw [if_neg (by simp [h])]
theorem KS.bound {k : KS} {o : Int} {e : EV} {cy : Int} (h : o < 0 ∨ 6 ≤ o ∨ e.b < 0 ∨ 3 ≤ e.b ∨ e.n < 0 ∨ cy < 0 ∨ 1048576 < cy) : k.code o e cy = 2 := by
  unfold KS.code; rw [if_pos]
  rcases h with h | h | h | h | h | h | h
  · exact .inl (by cases ho : ownB o with | false => rfl | true => have := ownB_iff.1 ho; omega)
  · exact .inl (by cases ho : ownB o with | false => rfl | true => have := ownB_iff.1 ho; omega)
  all_goals simp [h]
theorem KS.has_add (k : KS) (o : Int) (e f : EV) : (KS.mk (k.L ++ [(o, e)]) k.done).has f = (k.has f || decide (e = f)) := by simp [KS.has]
theorem KS.due_add {k : KS} (h : k.done ≤ k.L.length) (o : Int) (e : EV) : (KS.mk (k.L ++ [(o, e)]) k.done).due = k.due ++ [(o, e)] := by
  unfold KS.due; simp only; rw [List.drop_append_of_le_length h]

/-- the court has one case more -/
theorem CourtL.added {kb mb n : Nat} {dv dv' : Value} {k : KS} {o : Int} {e : EV} {w w1 w2 : World} {D : DataW Unit} (h : CourtL kb mb dv n k w) (he : e.wf)
    (hD : w.ownsMap Tryd.prog 128 (plainElem Tryd.prog 4) mb n D) (hA : ∀ f : EV, f.wf → D.atKey (evK f) (.lit (.bool false)) = .lit (.bool (k.has f)))
    (hm : w2.ownsMap Tryd.prog 128 (plainElem Tryd.prog 4) mb (n + 1) (D.put (evK e) (.lit (.bool true)))) (hr : RowAt kb 91 [.map (some mb), dv'] w2)
    (hd : w2.ownsRow 0 130 4 dv' (k.due.length + 1) (casesE k.due ++ caseE (o, e))) (hk : dv'.ownBlock ≠ some kb) (hk2 : dv'.ownBlock ≠ some mb) : CourtL kb mb dv' (n + 1) ⟨k.L ++ [(o, e)], k.done⟩ w2 := by
  refine ⟨hr, h.ne, ⟨_, hm, fun f hf => ?_⟩, ?_, hk, hk2, fun x hx => ?_, by have := h.done; simp; omega⟩
  · rw [KS.has_add]
    by_cases hef : e = f
    · subst hef
      rw [Maps.atKey_put_same hD.isMap (keyE.key (keyOf_ev he))]; simp
    · rw [Maps.atKey_put_other (fun e' => hef (evK_inj he hf e'.symm)), hA f hf]; simp [hef]
  · rw [KS.due_add h.done, casesE_snoc, List.length_append]; exact hd
  · rcases List.mem_append.1 hx with hx | hx
    · exact h.wf x hx
    · obtain rfl := List.mem_singleton.1 hx; exact he

theorem KS.has_wf (k : KS) (e : EV) : (k.L.any (fun x => decide (x.2 = e))) = k.has e := rfl
theorem infoCase : (Tryd.prog.info? 130).map (fun i => (i.zero.map (fun z => z.cells.size), i.size, i.bytes)) = some (some 4, 4, 32) := by kernel_rfl
theorem info_case : ∃ i z, Tryd.prog.info? 130 = some i ∧ i.zero = some z ∧ i.size = 4 ∧ i.bytes = 32 ∧ z.cells.size = 4 := by
  have h := infoCase
  cases hi : Tryd.prog.info? 130 with
  | none => rw [hi] at h; cases h
  | some i =>
    rw [hi] at h
    simp only [Option.map_some, Option.some.injEq, Prod.mk.injEq] at h
    obtain ⟨h1, h2, h3⟩ := h
    cases hz : i.zero with
    | none => rw [hz] at h1; cases h1
    | some z => rw [hz] at h1; simp at h1; exact ⟨i, z, rfl, hz, h2, h3, h1⟩

/-- a court's map, looked up -/
theorem CourtL.look {kb mb n : Nat} {dv : Value} {k : KS} {w : World} (h : CourtL kb mb dv n k w) {e : EV} (he : e.wf) (j : Nat) : (Instr.lookup 88 (.map (some mb)) (evV e) false).run Tryd.prog (w.drewN j) = .ok (.bool (k.has e)) (w.drewN j) := by
  obtain ⟨D, hm, hA⟩ := h.map
  obtain ⟨c, hrun, hat⟩ := lookup_bool (show (w.drewN j).ownsMap Tryd.prog 128 (plainElem Tryd.prog 4) mb n D from hm) keyE Tryd.underlying88 Tryd.underlying4 (zeroB _) (keyOf_ev he)
  have : c = k.has e := by have := hat.symm.trans (hA e he); simpa using this
  rw [← this]; exact hrun

/-- behind the call's own box of the evidence -/
structure AccB (w : World) (kb mb : Nat) (dv : Value) (A : Nat → Addr) (k : KS) (e : EV) (w1 : World) : Prop where
  below : Below w.heap.size w w1
  size : w1.heap.size = w.heap.size + 1
  e0 : w1.cell? ⟨w.heap.size, 0, none⟩ = some (.int .i64 e.b)
  e1 : w1.cell? ⟨w.heap.size, 1, none⟩ = some (.int .i64 e.c)
  e2 : w1.cell? ⟨w.heap.size, 2, none⟩ = some (.int .i64 e.n)
  g2 : w1.cell? ⟨0, 0, none⟩ = some (.iface 181 (.pointer (some (A 2))))
  g5 : w1.cell? ⟨1, 0, none⟩ = some (.iface 181 (.pointer (some (A 5))))
  g10 : w1.cell? ⟨9, 0, none⟩ = some (.iface 181 (.pointer (some (A 10))))
  c0 : w1.cell? ⟨kb, 0, none⟩ = some (.map (some mb))
  c1 : w1.cell? ⟨kb, 1, none⟩ = some dv
  f1 : w1.frozen? ⟨kb, 1, none⟩ = false
  look : ∀ j, (Instr.lookup 88 (.map (some mb)) (evV e) false).run Tryd.prog (w1.drewN j) = .ok (.bool (k.has e)) (w1.drewN j)
theorem AccB.of {w : World} {kb mb n : Nat} {dv : Value} {A : Nat → Addr} {S : List Nat} {k : KS} {e : EV} (hL : CourtL kb mb dv n k w) (hE : Errs A S w) (h2 : 2 ∈ S) (h5 : 5 ∈ S) (h10 : 10 ∈ S) (hw : e.wf) :
    AccB w kb mb dv A k e (w.alloc (.cells #[.int .i64 e.b, .int .i64 e.c, .int .i64 e.n] 128)) := by
  have hb : Below w.heap.size w (w.alloc (.cells #[.int .i64 e.b, .int .i64 e.c, .int .i64 e.n] 128)) := (Below.refl _ _).alloc (Nat.le_refl _) _
  have hE1 := hE.below hb
  have hL1 : CourtL kb mb dv n k (w.alloc (.cells #[.int .i64 e.b, .int .i64 e.c, .int .i64 e.n] 128)) := hL.keep (G := fun _ => False) (Keep.of_below hb) id id (fun _ _ => id)
  exact ⟨hb, by simp, by simp [go_sem], by simp [go_sem], by simp [go_sem], hE1.cell 2 h2, hE1.cell 5 h5, hE1.cell 10 h10, hL1.row.cell 0, hL1.row.cell 1, hL1.row.frozen 1, hL1.look hw⟩

theorem CourtL.finish {kb mb n i j g cap : Nat} {dv : Value} {k : KS} {F : Nat → Prop} {w w1 w2 w3 : World} {ob : Obj} {o : Int} {e : EV} {D : DataW Unit} (hL : CourtL kb mb dv n k w) (hF1 : F kb) (hF2 : F mb) (hF3 : ∀ g, dv.ownBlock = some g → F g) (hlt : ∀ b, F b → b < w.heap.size) (he : e.wf)
    (hD : w.ownsMap Tryd.prog 128 (plainElem Tryd.prog 4) mb n D) (hA : ∀ f : EV, f.wf → D.atKey (evK f) (.lit (.bool false)) = .lit (.bool (k.has f)))
    (hb1 : Below w.heap.size w w1) (ht : (w1.drewN j).mapTurned w2 mb) (hm : w2.ownsMap Tryd.prog 128 (plainElem Tryd.prog 4) mb (n + 1) (D.put (evK e) (.lit (.bool true))))
    (hg : ((w2.drewN i).alloc ob).grownBy w3 dv.ownBlock) (ho : w3.ownsRow 0 130 4 (.slice (some ⟨g, 0, none⟩) (k.due.length + 1) cap) (k.due.length + 1) (casesE k.due ++ caseE (o, e)))
    (hor : dv.ownBlock = some g ∨ g = w2.heap.size + 1) (hgl : g < w3.heap.size) :
    CourtP kb F (n + 1) ⟨k.L ++ [(o, e)], k.done⟩ w (w3.setCell ⟨kb, 1, none⟩ (.slice (some ⟨g, 0, none⟩) (k.due.length + 1) cap)) := by
  have KG : ∀ G : Nat → Prop, G mb → (∀ g, dv.ownBlock = some g → G g) → Keep G w w3 := fun G h1 h2 =>
    ((((Keep.of_below (F := G) hb1).drewN j).grown ht.grown (fun k hk => by cases hk; exact .inl h1)).drewN i |>.alloc ob).grown hg (fun k hk => .inl (h2 k hk))
  have hw2 : w.heap.size ≤ w2.heap.size := Nat.le_trans hb1.size ht.grown.size
  have hkb := hL.row.lt
  have hmb := hlt _ hF2
  have hgk : g ≠ kb := by
    rcases hor with h | h
    · exact fun e => hL.dk (by rw [h, e])
    · omega
  have hgm : g ≠ mb := by
    rcases hor with h | h
    · exact fun e => hL.dm (by rw [h, e])
    · omega
  have K5 : Keep F w (w3.setCell ⟨kb, 1, none⟩ (.slice (some ⟨g, 0, none⟩) (k.due.length + 1) cap)) := (KG F hF2 hF3).setCell (p := ⟨kb, 1, none⟩) (.inl hF1) _
  have hrow : RowAt kb 91 [.map (some mb), dv] w3 := hL.row.keep (KG (fun b => b = mb ∨ dv.ownBlock = some b) (.inl rfl) (fun g h => .inr h)) (by
    rintro (h | h)
    · exact hL.ne h
    · exact hL.dk h)
  have hset := hrow.set 1 (.slice (some ⟨g, 0, none⟩) (k.due.length + 1) cap)
  refine ⟨K5, mb, .slice (some ⟨g, 0, none⟩) (k.due.length + 1) cap, hL.added (w1 := w1) he hD hA ?_ hset ?_ ?_ ?_, .inl hF1, .inl hF2, fun g' hg' => ?_, grownF_lt hlt K5.size⟩
  · obtain ⟨es, clock, q1, q2⟩ := hm
    refine ⟨es, clock, ?_, q2⟩
    rw [Below.heap_setCell _ _ _ _ (show mb ≠ kb from fun e => hL.ne e.symm), hg.block mb (by simp; omega) (fun e => hL.dm e.symm), Below.heap_alloc _ _ _ (by simp; omega)]
    exact q1
  · refine ownsRow_other ho (fun g' hg' => ?_)
    have : g' = g := by simpa [Value.ownBlock] using hg'.symm
    subst this
    exact Below.heap_setCell _ _ _ _ hgk
  · simpa [Value.ownBlock] using hgk
  · simpa [Value.ownBlock] using hgm
  · have : g' = g := by simpa [Value.ownBlock] using hg'.symm
    subst this
    rcases hor with h | h
    · exact .inl (hF3 _ h)
    · exact .inr ⟨by omega, by simpa [World.setCell] using hgl⟩

/-- what the court's block and the box hold while the map turns, and behind the append -/
theorem CourtL.far {kb mb n j : Nat} {dv : Value} {k : KS} {F : Nat → Prop} {w w1 : World} (hL : CourtL kb mb dv n k w) (hlt : ∀ b, F b → b < w.heap.size) (hF1 : F kb) (hF2 : F mb) (hb1 : Below w.heap.size w w1) (hF3 : ∀ g, dv.ownBlock = some g → F g) {a b c : Value} (e0 : w1.cell? ⟨w.heap.size, 0, none⟩ = some a) (e1 : w1.cell? ⟨w.heap.size, 1, none⟩ = some b) (e2 : w1.cell? ⟨w.heap.size, 2, none⟩ = some c) (w2 : World) (ht : (w1.drewN j).mapTurned w2 mb) :
    (w2.cell? ⟨w.heap.size, 0, none⟩ = some a ∧ w2.cell? ⟨w.heap.size, 1, none⟩ = some b ∧ w2.cell? ⟨w.heap.size, 2, none⟩ = some c ∧ w2.cell? ⟨kb, 1, none⟩ = some dv ∧ w2.frozen? ⟨kb, 1, none⟩ = false ∧ ∀ ob, (w2.alloc ob).cell? ⟨kb, 1, none⟩ = some dv) ∧
    (∀ i ob, ((w2.drewN i).alloc ob).ownsRow 0 130 4 dv k.due.length (casesE k.due)) ∧
    ∀ i ob w3, ((w2.drewN i).alloc ob).grownBy w3 dv.ownBlock → w3.cell? ⟨kb, 1, none⟩ = some dv ∧ w3.frozen? ⟨kb, 1, none⟩ = false := by
  have hmb := hlt _ hF2
  have hkb := hlt _ hF1
  have hs := hb1.size
  have hwl : w.heap.size < w1.heap.size := World.block_lt_of_cell? w1 _ e0
  have hx : ∀ i, w2.cell? ⟨w.heap.size, i, none⟩ = w1.cell? ⟨w.heap.size, i, none⟩ := fun i => turned_cell (w := w1.drewN j) ht hwl (by omega)
  have KG : Keep (fun b => b = mb) w w2 := ((Keep.of_below hb1).drewN j).grown ht.grown (fun k hk => by cases hk; exact .inl rfl)
  have hr2 : RowAt kb 91 [.map (some mb), dv] w2 := hL.row.keep KG hL.ne
  have hd2 : w2.ownsRow 0 130 4 dv k.due.length (casesE k.due) := ownsRow_other hL.due (fun g hg => KG.block g (hlt _ (hF3 g hg)) (fun e => hL.dm (by rw [hg, e])))
  refine ⟨⟨by rw [hx]; exact e0, by rw [hx]; exact e1, by rw [hx]; exact e2, hr2.cell 1, hr2.frozen 1, fun ob => (hr2.alloc ob).cell 1⟩, fun i ob => ?_, fun i ob w3 hg => ?_⟩
  · exact ownsRow_other hd2 (fun g hg => Below.heap_alloc _ _ _ (by have := hlt _ (hF3 g hg); have := KG.size; simp; omega))
  · have hr3 : RowAt kb 91 [.map (some mb), dv] w3 := hr2.keep ((((Keep.refl (fun b => dv.ownBlock = some b) w2).drewN i).alloc ob).grown hg (fun k hk => .inl hk)) hL.dk
    exact ⟨hr3.cell 1, hr3.frozen 1⟩

end Go.Proofs.YtajnfkmkombajacDoor
namespace Go.Proofs.YtajnfkmkombajacDoor
open Go.RowKit Go.Maps

set_option maxRecDepth 8000 in
/-- a copy of cases -/
theorem cases_Clone (dv : Value) (l : List (Int × EV)) (w : World) (h : w.ownsRow 0 130 4 dv l.length (casesE l)) (hl : l.length ≤ 1000000) :
    Calls Tryd.prog 114 #[dv] w fun y w' => ∃ v', y = .returned v' ∧ w'.ownsRow w.heap.size 130 4 v' l.length (casesE l) ∧ Below w.heap.size w w' := by
  obtain ⟨i0, z0, hi, hz0, hz1, hz2, hz3⟩ := info_case
  have q : ∀ (w : World) (a : Option Addr) (n c n' c' : Nat), (binOp .eql 89 (.slice a n c) (.slice none n' c')).run Tryd.prog w = .ok (.bool a.isNone) w := fun w a n c n' c' => Lib.run_eql_slice_nil w _ _ a n c n' c' Tryd.underlying89
  have u : ∀ w, Sem.run Tryd.prog (underlying 89) w = .ok (TypeDesc.slice 130) w := run_underlying Tryd.underlying89
  have HO := Lib.hid h
  obtain ⟨h1, h2⟩ := h
  rcases h2 with ⟨rfl, hn⟩ | ⟨g, cap, cur, rfl, hb, hg, hnc, hcm, hcs, ht⟩
  · have : l = [] := List.eq_nil_of_length_eq_zero hn
    subst this
    go_enter Tryd.func114, Tryd.ntmps114
    go_wp2
    go_ret
    exact ⟨_, rfl, World.ownsRow_nil _ _ _ _, Below.refl _ _⟩
  · have hcells := HO.out.cells (g := g) rfl
    have HC := Lib.hid hcells
    have HG := Lib.hid hg
    have H1 := Lib.hid h1
    clear hcells hg hcs ht h1
    go_enter Tryd.func114, Tryd.ntmps114
    go_wp2_with (at_builtin; refine wpList_append_own _ rfl _ _ 89 rfl w.heap.size 130 i0 z0 4 32 Tryd.underlying89 hi hz0 hz1 hz2 hz3 (by decide) _ _ _ rfl (World.ownsRow_made w #[] 0 (Nat.le_refl _) (Nat.zero_le _) rfl) ⟨g, 0, none⟩ l.length cap (casesE l) rfl ?qc1 ?qc2 ?qc3 ?qc4 ?qc5 ?qc6 ?_)
    case qc1 => exact H1.out
    case qc2 => exact fun j u hj => Lib.cell?_alloc_some _ (HC.out j u hj)
    case qc3 =>
      intro u hu
      unfold casesE at hu
      obtain ⟨x, _, hx⟩ := List.mem_flatMap.1 hu
      simp [caseE] at hx
      rcases hx with rfl | rfl | rfl | rfl <;> rfl
    case qc4 => unfold maxLen; omega
    case qc5 => omega
    case qc6 => simp
    intro v' w1 hown hgrow hnil
    go_wp2
    go_ret
    exact ⟨v', rfl, by simpa using hown, ((Below.refl _ w).alloc (Nat.le_refl _) _).grown hgrow (by simp) (by intro k hk; simp [Value.ownBlock] at hk; omega)⟩

set_option maxRecDepth 8000 in
theorem court_Due (kb : Nat) (F : Nat → Prop) (n : Nat) (k : KS) (w : World) (h : CourtAt kb F n k w) (hk : k.L.length ≤ 1000000) :
    Calls Tryd.prog 87 #[.pointer (some ⟨kb, 0, none⟩)] w fun y w' => ∃ v', y = .returned v' ∧ w'.ownsRow w.heap.size 130 4 v' k.due.length (casesE k.due) ∧ Keep F w w' ∧ CourtAt kb F n k.asked w' := by
  obtain ⟨mb, dv, hL, hF1, hF2, hF3, hlt⟩ := h
  have hdl : k.due.length ≤ 1000000 := by unfold KS.due; rw [List.length_drop]; omega
  have c1 : w.cell? ⟨kb, 1, none⟩ = some dv := hL.row.cell 1
  have HCL := Lib.hid (fun wx (hx : Below w.heap.size w wx) => cases_Clone dv k.due wx (hL.keep (G := fun _ => False) (Keep.of_below hx) id id (fun _ _ => id)).due hdl)
  have HFIN := Lib.hid (show ∀ wx v', Below w.heap.size w wx → wx.ownsRow w.heap.size 130 4 v' k.due.length (casesE k.due) → (wx.cell? ⟨kb, 1, none⟩ = some dv ∧ wx.frozen? ⟨kb, 1, none⟩ = false) ∧ ∀ i,
      ((wx.drewN i).setCell ⟨kb, 1, none⟩ (.slice none 0 0)).ownsRow w.heap.size 130 4 v' k.due.length (casesE k.due) ∧ Keep F w ((wx.drewN i).setCell ⟨kb, 1, none⟩ (.slice none 0 0)) ∧ CourtAt kb F n k.asked ((wx.drewN i).setCell ⟨kb, 1, none⟩ (.slice none 0 0)) by
    intro wx v' hb ho
    have hL1 : CourtL kb mb dv n k wx := hL.keep (G := fun _ => False) (Keep.of_below hb) id id (fun _ _ => id)
    refine ⟨⟨hL1.row.cell 1, hL1.row.frozen 1⟩, fun i => ?_⟩
    have KE := ((Keep.of_below (F := F) hb).drewN i).setCell (p := ⟨kb, 1, none⟩) (.inl hF1) (.slice none 0 0)
    have hkb := hlt _ hF1
    refine ⟨ownsRow_other ho (fun g hg => Below.heap_setCell (wx.drewN i) _ _ _ (show g ≠ kb from fun e => ?_)), KE, mb, .slice none 0 0, ⟨(hL1.row.drewN i).set 1 _, hL.ne, ?_, ?_, by simp [Value.ownBlock], by simp [Value.ownBlock], hL.wf, Nat.le_refl _⟩, hF1, hF2, (fun g hg => by cases hg), fun b hb' => Nat.lt_of_lt_of_le (hlt b hb') KE.size⟩
    · rcases ho.2 with ⟨hv, _⟩ | ⟨g', cap, cur, hv, hb', _⟩
      · rw [hv] at hg; cases hg
      · rw [hv] at hg; simp [Value.ownBlock] at hg; omega
    · obtain ⟨D, ⟨es, clock, q1, q2⟩, q3⟩ := hL1.map
      exact ⟨D, ⟨es, clock, by rw [Below.heap_setCell _ _ _ _ (show mb ≠ kb from fun e => hL.ne e.symm)]; exact q1, q2⟩, q3⟩
    · have : k.asked.due = [] := by unfold KS.asked KS.due; simp
      rw [this]; exact World.ownsRow_nil _ _ _ _)
  clear hL hF1 hF2 hF3 hlt
  go_enter Tryd.func87, Tryd.ntmps87
  go_wp2_with fail
  refine (HCL.out _ (Below.refl _ _)).mono ?_
  rintro e w1 ⟨v', rfl, ho, hb⟩
  obtain ⟨⟨m1, m2⟩, hend⟩ := HFIN.out w1 v' hb ho
  have HEND := Lib.hid (hend 0)
  clear hend ho hb
  go_wp2_with fail
  go_ret
  exact ⟨v', rfl, HEND.out⟩
end Go.Proofs.YtajnfkmkombajacDoor
