/- Package court in memory: New, Accuse, Due, Percent, Share. -/
import Derived.Test.YtajnfkmkombajabDoorCourtKey
import Derived.Test.YtajnfkmkombajabDoorStake2
import Derived.Test.YtajnfkmkombajabDoorOwnSl
import Derived.Test.YtajnfkmkombajabDoorRdR
import Derived.Deep.RegionWith
import Derived.Deep.QuietTactic
import Derived.BigQuiet
set_option linter.unusedVariables false
set_option linter.unusedSimpArgs false
namespace Go.Proofs.YtajnfkmkombajabDoor
open Go.RowKit Go.Maps

/-- a case's cells -/
def caseE (x : Int × EV) : List Value := [.int .i64 x.1, .int .i64 x.2.b, .int .i64 x.2.c, .int .i64 x.2.n]
def casesE (l : List (Int × EV)) : List Value := l.flatMap caseE
theorem casesE_length (l : List (Int × EV)) : (casesE l).length = l.length * 4 := by
  induction l with
  | nil => rfl
  | cons x l ih => unfold casesE at ih ⊢; rw [List.flatMap_cons, List.length_append, ih]; simp [caseE]; omega
theorem casesE_snoc (l : List (Int × EV)) (x : Int × EV) : casesE (l ++ [x]) = casesE l ++ caseE x := by simp [casesE]
def KS.has (k : KS) (e : EV) : Bool := k.L.any (fun x => decide (x.2 = e))

structure CourtL (kb mb : Nat) (dv : Value) (n : Nat) (k : KS) (w : World) : Prop where
  row : RowAt kb 125 [.map (some mb), dv] w
  ne : kb ≠ mb
  map : ∃ D : DataW Unit, w.ownsMap Tryd.prog 28 (plainElem Tryd.prog 4) mb n D ∧ ∀ e : EV, e.wf → D.atKey (evK e) (.lit (.bool false)) = .lit (.bool (k.has e))
  due : w.ownsRow 0 36 4 dv k.due.length (casesE k.due)
  dk : dv.ownBlock ≠ some kb
  dm : dv.ownBlock ≠ some mb
  wf : ∀ x ∈ k.L, x.2.wf
  done : k.done ≤ k.L.length
/-- block kb is a court that holds k, among the blocks F -/
def CourtAt (kb : Nat) (F : Nat → Prop) (n : Nat) (k : KS) (w : World) : Prop := ∃ mb dv, CourtL kb mb dv n k w ∧ F kb ∧ F mb ∧ (∀ g, dv.ownBlock = some g → F g) ∧ ∀ b, F b → b < w.heap.size
def CourtP (kb : Nat) (F : Nat → Prop) (n : Nat) (k : KS) (w w' : World) : Prop := Keep F w w' ∧ CourtAt kb (grownF F w w') n k w'

section
variable {kb mb n : Nat} {dv : Value} {k : KS} {F G : Nat → Prop} {w w' : World}
theorem CourtL.keep (h : CourtL kb mb dv n k w) (K : Keep G w w') (h1 : ¬ G kb) (h2 : ¬ G mb) (h3 : ∀ g, dv.ownBlock = some g → ¬ G g) : CourtL kb mb dv n k w' := by
  obtain ⟨D, ⟨es, clock, e1, e2⟩, h5⟩ := h.map
  refine ⟨h.row.keep K h1, h.ne, ⟨D, ⟨es, clock, K.heap e1 h2, e2⟩, h5⟩, ?_, h.dk, h.dm, h.wf, h.done⟩
  obtain ⟨l1, l2⟩ := h.due
  refine ⟨l1, ?_⟩
  rcases l2 with l2 | ⟨g, cap, cur, hv, hb, hg, r⟩
  · exact .inl l2
  · exact .inr ⟨g, cap, cur, hv, hb, K.heap hg (h3 g (by rw [hv]; rfl)), r⟩
theorem CourtAt.keep (h : CourtAt kb F n k w) (K : Keep G w w') (hG : ∀ b, F b → ¬ G b) : CourtAt kb F n k w' := by
  obtain ⟨mb, dv, h1, h2, h3, h4, h5⟩ := h
  exact ⟨mb, dv, h1.keep K (hG _ h2) (hG _ h3) (fun g hg => hG _ (h4 g hg)), h2, h3, h4, fun b hb => Nat.lt_of_lt_of_le (h5 b hb) K.size⟩
theorem CourtAt.below (h : CourtAt kb F n k w) (K : Below w.heap.size w w') : CourtAt kb F n k w' := h.keep (G := fun _ => False) (Keep.of_below K) (fun _ _ => id)
theorem CourtAt.foot (h : CourtAt kb F n k w) (hG : ∀ b, F b → G b) (hlt : ∀ b, G b → b < w.heap.size) : CourtAt kb G n k w := by
  obtain ⟨mb, dv, h1, h2, h3, h4, h5⟩ := h
  exact ⟨mb, dv, h1, hG _ h2, hG _ h3, fun g hg => hG _ (h4 g hg), hlt⟩
theorem CourtAt.lt (h : CourtAt kb F n k w) : ∀ b, F b → b < w.heap.size := by obtain ⟨mb, dv, h1, h2, h3, h4, h5⟩ := h; exact h5
theorem CourtAt.mono (h : CourtAt kb F n k w) {m : Nat} (hm : n ≤ m) : CourtAt kb F m k w := by
  obtain ⟨mb, dv, h1, h2⟩ := h
  obtain ⟨D, h3, h4⟩ := h1.map
  exact ⟨mb, dv, ⟨h1.row, h1.ne, ⟨D, h3.mono hm, h4⟩, h1.due, h1.dk, h1.dm, h1.wf, h1.done⟩, h2⟩
theorem CourtP.of_below (h : CourtAt kb F n k w) (hb : Below w.heap.size w w') : CourtP kb F n k w w' :=
  ⟨Keep.of_below hb, (h.below hb).foot (fun _ hk => .inl hk) (grownF_lt (fun _ hk => h.lt _ hk) hb.size)⟩
end

theorem court_Percent (n : Int) (w : World) : Calls Tryd.prog 21 #[.int .i64 n] w fun e w' => e = .returned (.int .i64 (pct n)) ∧ w = w' := by
  by_cases h : n.tmod 2 = 0
  · have e : pct n = 5 := if_pos h
    rw [e]
    go_enter Tryd.func21, Tryd.ntmps21
    go_wp2
    go_ret
    exact ⟨rfl, rfl⟩
  · have e : pct n = 50 := if_neg h
    rw [e]
    go_enter Tryd.func21, Tryd.ntmps21
    go_wp2
    go_ret
    exact ⟨rfl, rfl⟩

def shareA (n : Int) : Int := if n < 0 then 0 else n / 7
def shareB (n : Int) : Int := if n < 0 then 0 else n - n / 7
theorem court_Share (n : Int) (hn : n ≤ 9223372036854775807) (w : World) : Calls Tryd.prog 22 #[.int .i64 n] w fun e w' => e = .returned (.tuple #[.int .i64 (shareA n), .int .i64 (shareB n)]) ∧ w = w' := by
  by_cases h : n < 0
  · have e1 : shareA n = 0 := if_pos h
    have e2 : shareB n = 0 := if_pos h
    rw [e1, e2]
    go_enter Tryd.func22, Tryd.ntmps22
    go_wp2
    go_ret2
    exact ⟨rfl, rfl⟩
  · have h0 : 0 ≤ n := by omega
    have e0 : n.tdiv 7 = n / 7 := Int.tdiv_eq_ediv_of_nonneg h0
    have e1 : shareA n = n / 7 := if_neg h
    have e2 : shareB n = n - n / 7 := if_neg h
    rw [e1, e2]
    have b0 : 0 ≤ n / 7 := Int.ediv_nonneg h0 (by decide)
    have b1 : n / 7 ≤ n := by omega
    clear e1 e2 h
    generalize n / 7 = m at *
    go_enter Tryd.func22, Tryd.ntmps22
    go_wp2
    go_ret2
    exact ⟨rfl, rfl⟩

theorem court_New (w : World) : Calls Tryd.prog 15 #[] w fun e w' => e = .returned (.pointer (some ⟨w.heap.size + 1, 0, none⟩)) ∧ Below w.heap.size w w' ∧ CourtAt (w.heap.size + 1) (fun b => b = w.heap.size ∨ b = w.heap.size + 1) 0 KS.new w' := by
  have hmm := @run_makeMap Tryd.prog
  go_enter Tryd.func15, Tryd.ntmps15
  go_wp2
  go_ret
  refine ⟨by simp, ((Below.refl _ _).alloc (Nat.le_refl _) _).alloc (by simp) _, w.heap.size, .slice none 0 0, ⟨?_, by omega, ⟨.map [], (World.ownsMap_made w _ _ _).alloc _, fun e he => ?_⟩, World.ownsRow_nil _ _ _ _, by simp [Value.ownBlock], by simp [Value.ownBlock], (fun x hx => by cases hx), Nat.le_refl _⟩, .inr rfl, .inl rfl, (fun g hg => by cases hg), fun b hb => by simp; omega⟩
  · have := RowAt.new (w.alloc (.map #[] 0)) 125 [.map (some w.heap.size), .slice none 0 0]
    have hs : (w.alloc (.map #[] 0)).heap.size = w.heap.size + 1 := by simp
    rw [hs] at this
    exact this
  · rw [atKey_of_not_has (by rfl)]; rfl
end Go.Proofs.YtajnfkmkombajabDoor
