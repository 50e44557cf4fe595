/- Contracts of package stake: New, Register, Join, Add. -/
import Derived.Test.YtajnfkmkombajacDoorStake1
import Derived.Deep.RegionWith
set_option linter.unusedVariables false
set_option linter.unusedSimpArgs false
namespace Go.Proofs.YtajnfkmkombajacDoor
open Go.RowKit Go.Maps

/-- F, and whatever is new between the two worlds -/
def grownF (F : Nat → Prop) (w w' : World) : Nat → Prop := fun k => F k ∨ (w.heap.size ≤ k ∧ k < w'.heap.size)
/-- the stakes may have turned -/
def StakesP (sb : Nat) (F : Nat → Prop) (n : Nat) (s : SS) (w w' : World) : Prop := Keep F w w' ∧ StakesAt sb (grownF F w w') n s w'

theorem StakesAt.foot {sb n : Nat} {F G : Nat → Prop} {s : SS} {w : World} (h : StakesAt sb F n s w) (hG : ∀ b, F b → G b) (hlt : ∀ b, G b → b < w.heap.size) : StakesAt sb G n s w := by
  obtain ⟨L, h1, h2, h3⟩ := h
  exact ⟨L, h1, fun b hb => hG b (h2 b hb), hlt⟩
theorem grownF_lt {F : Nat → Prop} {w w' : World} (hF : ∀ b, F b → b < w.heap.size) (hs : w.heap.size ≤ w'.heap.size) : ∀ b, grownF F w w' b → b < w'.heap.size := fun b hb => by
  rcases hb with hb | hb
  · exact Nat.lt_of_lt_of_le (hF b hb) hs
  · exact hb.2
theorem StakesAt.lt {sb n : Nat} {F : Nat → Prop} {s : SS} {w : World} (h : StakesAt sb F n s w) {b : Nat} (hb : F b) : b < w.heap.size := h.choose_spec.2.2 b hb
theorem StakesP.refl {sb n : Nat} {F : Nat → Prop} {s : SS} {w : World} (h : StakesAt sb F n s w) : StakesP sb F n s w w := ⟨Keep.refl _ _, h.foot (fun _ hb => .inl hb) (fun b hb => by rcases hb with hb | hb; exact h.lt hb; omega)⟩
theorem StakesP.drewN {sb n : Nat} {F : Nat → Prop} {s : SS} {w w' : World} (h : StakesP sb F n s w w') (k : Nat) : StakesP sb F n s w (w'.drewN k) := ⟨h.1.drewN k, h.2.drewN k⟩
theorem StakesP.mono {sb n m : Nat} {F : Nat → Prop} {s : SS} {w w' : World} (h : StakesP sb F n s w w') (hm : n ≤ m) : StakesP sb F m s w w' := ⟨h.1, h.2.mono hm⟩

/-- a turn of one pool, as the whole stakes see it -/
theorem StakesL.turned {sb n m : Nat} {F : Nat → Prop} {L : Lay} {s s' : SS} {w w' : World} (h : StakesL sb L n s w) (hF : ∀ b, L.role b ≠ .none → F b) (hlt : ∀ b, F b → b < w.heap.size) {k : Nat} {oc : Option Int} {q q' : QS}
    (hk : k < 3) (hg : s.get k oc = some q) (hp : PoolP (L.pb k oc) (L.pm k oc) m q' w w') (hm : n ≤ m) (hs : s'.Ok)
    (hi : ∀ j : Nat, j < 3 → s'.is j = s.is j) (hget : ∀ j oc', j < 3 → (j = k ∧ oc' = oc → s'.get j oc' = some q') ∧ (¬ (j = k ∧ oc' = oc) → s'.get j oc' = s.get j oc')) : StakesP sb F m s' w w' := by
  obtain ⟨-, rb, rm⟩ := h.poo k oc q hk hg
  have hb : F (L.pb k oc) := hF _ (by rw [rb]; simp)
  have hmm : F (L.pm k oc) := hF _ (by rw [rm]; simp)
  exact ⟨hp.1.mono (fun i hi' => by rcases hi' with rfl | rfl; exact hb; exact hmm), L, h.turn hk hg hp hm hs hi hget, fun b hb' => .inl (hF b hb'), grownF_lt hlt hp.1.size⟩

theorem SS.setP_get {s : SS} (h : s.Ok) {k : Nat} (hk : k < 3) (q' : QS) : (∀ j : Nat, j < 3 → s.is k = true → (s.setP k q').is j = s.is j) ∧ ∀ j oc, j < 3 → (j = k ∧ oc = none → (s.setP k q').get j oc = some q') ∧ (¬ (j = k ∧ oc = none) → (s.setP k q').get j oc = s.get j oc) := by
  refine ⟨fun j hj hi => ?_, fun j oc hj => ⟨?_, fun hne => ?_⟩⟩
  · unfold SS.is at hi ⊢
    rw [SS.pool_setP h (by omega) (by omega)]
    split
    · next e => rw [e, hi]; rfl
    · rfl
  · rintro ⟨rfl, rfl⟩
    show (s.setP j q').P.getD j none = some q'
    rw [← SS.pool_nat, SS.pool_setP h (by omega) (by omega), if_pos rfl]
  · cases oc with
    | some c => rfl
    | none =>
      show (s.setP k q').P.getD j none = s.P.getD j none
      rw [← SS.pool_nat, ← SS.pool_nat, SS.pool_setP h (by omega) (by omega), if_neg (fun e => hne ⟨by omega, rfl⟩)]

/-- the new stakes -/
theorem stake_New (w : World) : Calls Tryd.prog 6 #[] w fun e w' => e = .returned (.pointer (some ⟨w.heap.size, 0, none⟩)) ∧ Below w.heap.size w w' ∧ StakesAt w.heap.size (fun k => k = w.heap.size) 0 SS.new w' := by
  go_enter Tryd.func6, Tryd.ntmps6
  go_wp2
  go_ret
  refine ⟨rfl, (Below.refl _ _).alloc (Nat.le_refl _) _, ⟨fun _ => 0, fun _ => 0, fun _ _ => 0, fun _ _ => 0, fun b => if b = w.heap.size then .top else .none⟩, ⟨SS.new_ok, ?_, by simp, fun k hk hi => ?_, fun k hk hi => ?_, fun k oc q hk hg => ?_⟩, fun b hb => ?_, fun b hb => by rw [hb]; simp⟩
  · exact RowAt.new w 49 [.pointer none, .pointer none, .pointer none]
  · match k, hk with
    | 0, _ => cases hi
    | 1, _ => cases hi
    | 2, _ => cases hi
  · match k, hk with
    | 0, _ => cases hi
    | 1, _ => cases hi
    | 2, _ => cases hi
  · cases oc with
    | none =>
      match k, hk with
      | 0, _ => cases hg
      | 1, _ => cases hg
      | 2, _ => cases hg
    | some c => cases hg
  · by_cases e : b = w.heap.size
    · exact e
    · simp [e] at hb

theorem stake_join_no {s : SS} {o k n : Int} (h : s.is k = false) : s.joinOp o k n = (4, s) := by unfold SS.joinOp; rw [SS.is_none h]
theorem stake_join_yes {s : SS} {o k n : Int} {q : QS} (h : s.pool k = some q) : s.joinOp o k n = ((q.joinOp o n).1, s.setP k (q.joinOp o n).2) := by unfold SS.joinOp; rw [h]
theorem stake_add_no {s : SS} {k n : Int} (h : s.is k = false) : s.addOp k n = (4, s) := by unfold SS.addOp; rw [SS.is_none h]
theorem stake_add_yes {s : SS} {k n : Int} {q : QS} (h : s.pool k = some q) : s.addOp k n = ((q.addOp n).1, s.setP k (q.addOp n).2) := by unfold SS.addOp; rw [h]

theorem stake_Join (A : Nat → Addr) (S : List Nat) (sb : Nat) (F : Nat → Prop) (m : Nat) (s : SS) (o k n : Int) (w : World) (h : StakesAt sb F m s w) (hE : Errs A S w) (h2 : 2 ∈ S) (h4 : 4 ∈ S) (h7 : 7 ∈ S) (h8 : 8 ∈ S) (hm : m < maxLen) :
    Calls Tryd.prog 8 #[.pointer (some ⟨sb, 0, none⟩), .int .i64 o, .int .i64 k, .int .i64 n] w fun e w' => e = .returned (ev A (s.joinOp o k n).1) ∧ StakesP sb F (m + 1) (s.joinOp o k n).2 w w' := by
  obtain ⟨L, hL, hF, hlt⟩ := h
  rcases reg_cases hL.ok k with hi | ⟨j, rfl, hj, hi⟩
  · have E := Lib.hid (stake_join_no (o := o) (n := n) hi)
    have HB := Lib.hid (stake_baker_no A S sb L m s k w hL hi hE h4)
    have HS := Lib.hid (StakesP.refl (F := F) ⟨L, hL, hF, hlt⟩)
    clear hL hF hlt hi hE
    go_enter Tryd.func8, Tryd.ntmps8
    go_wp2_with (go_at_call 24; refine HB.out.mono ?_; rintro e w' ⟨rfl, d, rfl⟩)
    go_ret
    rw [E.out]
    exact ⟨rfl, (HS.out.mono (Nat.le_succ m)).drewN d⟩
  · obtain ⟨q, hq, hg⟩ := SS.is_some hi
    have E := Lib.hid (stake_join_yes (o := o) (n := n) hq)
    have HB := Lib.hid (stake_baker_yes sb L m s j w hL hj hi)
    obtain ⟨c0, c1⟩ := hL.baker hj hi
    have HJ := Lib.hid (pool_Join A S _ _ m q o n w hE h2 h7 h8 (hL.poo j none q hj hg).1 hm)
    have hok := SS.joinOp_ok hL.ok o j n
    rw [stake_join_yes hq] at hok
    obtain ⟨g1, g2⟩ := SS.setP_get hL.ok hj (q.joinOp o n).2
    have HT := Lib.hid (fun w' (hp : PoolP (L.pb j none) (L.pm j none) (m + 1) (q.joinOp o n).2 w w') => hL.turned hF hlt hj hg hp (Nat.le_succ m) hok (fun j' hj' => g1 j' hj' hi) g2)
    clear hL hF hlt hi hE hq hg hok g1 g2
    go_enter Tryd.func8, Tryd.ntmps8
    go_wp2_with (first
      | (go_at_call 24; refine HB.out.mono ?_; rintro e w' ⟨rfl, rfl⟩)
      | (go_at_call 25; refine HJ.out.mono ?_; rintro e w' ⟨rfl, hp⟩))
    go_ret
    rw [E.out]
    exact ⟨rfl, HT.out _ hp⟩

theorem stake_Add (A : Nat → Addr) (S : List Nat) (sb : Nat) (F : Nat → Prop) (m : Nat) (s : SS) (k n : Int) (w : World) (h : StakesAt sb F m s w) (hE : Errs A S w) (h2 : 2 ∈ S) (h4 : 4 ∈ S) :
    Calls Tryd.prog 86 #[.pointer (some ⟨sb, 0, none⟩), .int .i64 k, .int .i64 n] w fun e w' => e = .returned (ev A (s.addOp k n).1) ∧ StakesP sb F (m + 1) (s.addOp k n).2 w w' := by
  obtain ⟨L, hL, hF, hlt⟩ := h
  rcases reg_cases hL.ok k with hi | ⟨j, rfl, hj, hi⟩
  · have E := Lib.hid (stake_add_no (n := n) hi)
    have HB := Lib.hid (stake_baker_no A S sb L m s k w hL hi hE h4)
    have HS := Lib.hid (StakesP.refl (F := F) ⟨L, hL, hF, hlt⟩)
    clear hL hF hlt hi hE
    go_enter Tryd.func86, Tryd.ntmps86
    go_wp2_with (go_at_call 24; refine HB.out.mono ?_; rintro e w' ⟨rfl, d, rfl⟩)
    go_ret
    rw [E.out]
    exact ⟨rfl, (HS.out.mono (Nat.le_succ m)).drewN d⟩
  · obtain ⟨q, hq, hg⟩ := SS.is_some hi
    have E := Lib.hid (stake_add_yes (n := n) hq)
    have HB := Lib.hid (stake_baker_yes sb L m s j w hL hj hi)
    obtain ⟨c0, c1⟩ := hL.baker hj hi
    have HJ := Lib.hid (pool_Add A S _ _ m q n w hE h2 h4 (hL.poo j none q hj hg).1)
    have hok := SS.addOp_ok hL.ok j n
    rw [stake_add_yes hq] at hok
    obtain ⟨g1, g2⟩ := SS.setP_get hL.ok hj (q.addOp n).2
    have HT := Lib.hid (fun w' (hp : PoolP (L.pb j none) (L.pm j none) (m + 1) (q.addOp n).2 w w') => hL.turned hF hlt hj hg hp (Nat.le_succ m) hok (fun j' hj' => g1 j' hj' hi) g2)
    clear hL hF hlt hi hE hq hg hok g1 g2
    go_enter Tryd.func86, Tryd.ntmps86
    go_wp2_with (first
      | (go_at_call 24; refine HB.out.mono ?_; rintro e w' ⟨rfl, rfl⟩)
      | (go_at_call 113; refine HJ.out.mono ?_; rintro e w' ⟨rfl, hp⟩))
    go_ret
    rw [E.out]
    exact ⟨rfl, HT.out _ hp⟩
end Go.Proofs.YtajnfkmkombajacDoor
