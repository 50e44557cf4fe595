/-
  Contracts of package stake: New, Register, Join, Add.
  Contracts: stake.Register; maps.Clone at a pool's map; pool.Copy.
  Contracts: pool.Copy; stake.Leave (what it does to the memory).
  Contracts: maps.Clone at a pool's map; pool.Copy.
  Plain: 'a, m[k] = x, y': the entry is laid first, then filled. No program in sight.
-/
import Derived.Test.YtajnfkmkombajabGreatDoorQSR08
import Derived.Deep.RegionWith
import Derived.Shelf.SlMaps.Clone
import Derived.Deep.RegionHeld3
import Derived.WideKeyEntry
import Derived.Maps.OwnSet
set_option linter.unusedVariables false
set_option linter.unusedSimpArgs false
set_option linter.unusedVariables false
namespace Go.Proofs.YtajnfkmkombajabGreatDoor
open Go.RowKit Go.Maps

/-- F, and whatever is new between the two worlds -/
def grownF (F : Nat → Prop) (w w' : World) : Nat → Prop := fun k => F k ∨ (w.heap.size ≤ k ∧ k < w'.heap.size)
/-- the stakes may have turned -/
def StakesP (sb : Nat) (F : Nat → Prop) (n : Nat) (s : SS) (w w' : World) : Prop := Keep F w w' ∧ StakesAt sb (grownF F w w') n s w'

theorem StakesAt.foot {sb n : Nat} {F G : Nat → Prop} {s : SS} {w : World} (h : StakesAt sb F n s w) (hG : ∀ b, F b → G b) (hlt : ∀ b, G b → b < w.heap.size) : StakesAt sb G n s w := by
  obtain ⟨L, h1, h2, h3⟩ := h
  exact ⟨L, h1, fun b hb => hG b (h2 b hb), hlt⟩
theorem grownF_lt {F : Nat → Prop} {w w' : World} (hF : ∀ b, F b → b < w.heap.size) (hs : w.heap.size ≤ w'.heap.size) : ∀ b, grownF F w w' b → b < w'.heap.size := fun b hb => by
  rcases hb with hb | hb
  · exact Nat.lt_of_lt_of_le (hF b hb) hs
  · exact hb.2
theorem StakesAt.lt {sb n : Nat} {F : Nat → Prop} {s : SS} {w : World} (h : StakesAt sb F n s w) {b : Nat} (hb : F b) : b < w.heap.size := h.choose_spec.2.2 b hb
theorem StakesP.refl {sb n : Nat} {F : Nat → Prop} {s : SS} {w : World} (h : StakesAt sb F n s w) : StakesP sb F n s w w := ⟨Keep.refl _ _, h.foot (fun _ hb => .inl hb) (fun b hb => by rcases hb with hb | hb; exact h.lt hb; omega)⟩
theorem StakesP.drewN {sb n : Nat} {F : Nat → Prop} {s : SS} {w w' : World} (h : StakesP sb F n s w w') (k : Nat) : StakesP sb F n s w (w'.drewN k) := ⟨h.1.drewN k, h.2.drewN k⟩
theorem StakesP.mono {sb n m : Nat} {F : Nat → Prop} {s : SS} {w w' : World} (h : StakesP sb F n s w w') (hm : n ≤ m) : StakesP sb F m s w w' := ⟨h.1, h.2.mono hm⟩

/-- a turn of one pool, as the whole stakes see it -/
theorem StakesL.turned {sb n m : Nat} {F : Nat → Prop} {L : Lay} {s s' : SS} {w w' : World} (h : StakesL sb L n s w) (hF : ∀ b, L.role b ≠ .none → F b) (hlt : ∀ b, F b → b < w.heap.size) {k : Nat} {oc : Option Int} {q q' : QS}
    (hk : k < 3) (hg : s.get k oc = some q) (hp : PoolP (L.pb k oc) (L.pm k oc) m q' w w') (hm : n ≤ m) (hs : s'.Ok)
    (hi : ∀ j : Nat, j < 3 → s'.is j = s.is j) (hget : ∀ j oc', j < 3 → (j = k ∧ oc' = oc → s'.get j oc' = some q') ∧ (¬ (j = k ∧ oc' = oc) → s'.get j oc' = s.get j oc')) : StakesP sb F m s' w w' := by
  obtain ⟨-, rb, rm⟩ := h.poo k oc q hk hg
  have hb : F (L.pb k oc) := hF _ (by rw [rb]; simp)
  have hmm : F (L.pm k oc) := hF _ (by rw [rm]; simp)
  exact ⟨hp.1.mono (fun i hi' => by rcases hi' with rfl | rfl; exact hb; exact hmm), L, h.turn hk hg hp hm hs hi hget, fun b hb' => .inl (hF b hb'), grownF_lt hlt hp.1.size⟩

theorem SS.setP_get {s : SS} (h : s.Ok) {k : Nat} (hk : k < 3) (q' : QS) : (∀ j : Nat, j < 3 → s.is k = true → (s.setP k q').is j = s.is j) ∧ ∀ j oc, j < 3 → (j = k ∧ oc = none → (s.setP k q').get j oc = some q') ∧ (¬ (j = k ∧ oc = none) → (s.setP k q').get j oc = s.get j oc) := by
  refine ⟨fun j hj hi => ?_, fun j oc hj => ⟨?_, fun hne => ?_⟩⟩
  · unfold SS.is at hi ⊢
    rw [SS.pool_setP h (by omega) (by omega)]
    split
    · next e => rw [e, hi]; rfl
    · rfl
  · rintro ⟨rfl, rfl⟩
    show (s.setP j q').P.getD j none = some q'
    rw [← SS.pool_nat, SS.pool_setP h (by omega) (by omega), if_pos rfl]
  · cases oc with
    | some c => rfl
    | none =>
      show (s.setP k q').P.getD j none = s.P.getD j none
      rw [← SS.pool_nat, ← SS.pool_nat, SS.pool_setP h (by omega) (by omega), if_neg (fun e => hne ⟨by omega, rfl⟩)]

/-- the new stakes -/
theorem stake_New (w : World) : Calls Tryz.prog 15 #[] w fun e w' => e = .returned (.pointer (some ⟨w.heap.size, 0, none⟩)) ∧ Below w.heap.size w w' ∧ StakesAt w.heap.size (fun k => k = w.heap.size) 0 SS.new w' := by
  go_enter Tryz.func15, Tryz.ntmps15
  go_wp2
  go_ret
  refine ⟨rfl, (Below.refl _ _).alloc (Nat.le_refl _) _, ⟨fun _ => 0, fun _ => 0, fun _ _ => 0, fun _ _ => 0, fun b => if b = w.heap.size then .top else .none⟩, ⟨SS.new_ok, ?_, by simp, fun k hk hi => ?_, fun k hk hi => ?_, fun k oc q hk hg => ?_⟩, fun b hb => ?_, fun b hb => by rw [hb]; simp⟩
  · exact RowAt.new w 82 [.pointer none, .pointer none, .pointer none]
  · match k, hk with
    | 0, _ => cases hi
    | 1, _ => cases hi
    | 2, _ => cases hi
  · match k, hk with
    | 0, _ => cases hi
    | 1, _ => cases hi
    | 2, _ => cases hi
  · cases oc with
    | none =>
      match k, hk with
      | 0, _ => cases hg
      | 1, _ => cases hg
      | 2, _ => cases hg
    | some c => cases hg
  · by_cases e : b = w.heap.size
    · exact e
    · simp [e] at hb

theorem stake_join_no {s : SS} {o k n : Int} (h : s.is k = false) : s.joinOp o k n = (4, s) := by unfold SS.joinOp; rw [SS.is_none h]
theorem stake_join_yes {s : SS} {o k n : Int} {q : QS} (h : s.pool k = some q) : s.joinOp o k n = ((q.joinOp o n).1, s.setP k (q.joinOp o n).2) := by unfold SS.joinOp; rw [h]
theorem stake_add_no {s : SS} {k n : Int} (h : s.is k = false) : s.addOp k n = (4, s) := by unfold SS.addOp; rw [SS.is_none h]
theorem stake_add_yes {s : SS} {k n : Int} {q : QS} (h : s.pool k = some q) : s.addOp k n = ((q.addOp n).1, s.setP k (q.addOp n).2) := by unfold SS.addOp; rw [h]

theorem stake_Join (A : Nat → Addr) (S : List Nat) (sb : Nat) (F : Nat → Prop) (m : Nat) (s : SS) (o k n : Int) (w : World) (h : StakesAt sb F m s w) (hE : Errs A S w) (h2 : 2 ∈ S) (h4 : 4 ∈ S) (h7 : 7 ∈ S) (h8 : 8 ∈ S) (hm : m < maxLen) :
    Calls Tryz.prog 32 #[.pointer (some ⟨sb, 0, none⟩), .int .i64 o, .int .i64 k, .int .i64 n] w fun e w' => e = .returned (ev A (s.joinOp o k n).1) ∧ StakesP sb F (m + 1) (s.joinOp o k n).2 w w' := by
  obtain ⟨L, hL, hF, hlt⟩ := h
  rcases reg_cases hL.ok k with hi | ⟨j, rfl, hj, hi⟩
  · have E := Lib.hid (stake_join_no (o := o) (n := n) hi)
    have HB := Lib.hid (stake_baker_no A S sb L m s k w hL hi hE h4)
    have HS := Lib.hid (StakesP.refl (F := F) ⟨L, hL, hF, hlt⟩)
    clear hL hF hlt hi hE
    go_enter Tryz.func32, Tryz.ntmps32
    go_wp2_with (go_at_call 78; refine HB.out.mono ?_; rintro e w' ⟨rfl, d, rfl⟩)
    go_ret
    rw [E.out]
    exact ⟨rfl, (HS.out.mono (Nat.le_succ m)).drewN d⟩
  · obtain ⟨q, hq, hg⟩ := SS.is_some hi
    have E := Lib.hid (stake_join_yes (o := o) (n := n) hq)
    have HB := Lib.hid (stake_baker_yes sb L m s j w hL hj hi)
    obtain ⟨c0, c1⟩ := hL.baker hj hi
    have HJ := Lib.hid (pool_Join A S _ _ m q o n w hE h2 h7 h8 (hL.poo j none q hj hg).1 hm)
    have hok := SS.joinOp_ok hL.ok o j n
    rw [stake_join_yes hq] at hok
    obtain ⟨g1, g2⟩ := SS.setP_get hL.ok hj (q.joinOp o n).2
    have HT := Lib.hid (fun w' (hp : PoolP (L.pb j none) (L.pm j none) (m + 1) (q.joinOp o n).2 w w') => hL.turned hF hlt hj hg hp (Nat.le_succ m) hok (fun j' hj' => g1 j' hj' hi) g2)
    clear hL hF hlt hi hE hq hg hok g1 g2
    go_enter Tryz.func32, Tryz.ntmps32
    go_wp2_with (first
      | (go_at_call 78; refine HB.out.mono ?_; rintro e w' ⟨rfl, rfl⟩)
      | (go_at_call 79; refine HJ.out.mono ?_; rintro e w' ⟨rfl, hp⟩))
    go_ret
    rw [E.out]
    exact ⟨rfl, HT.out _ hp⟩

theorem stake_Add (A : Nat → Addr) (S : List Nat) (sb : Nat) (F : Nat → Prop) (m : Nat) (s : SS) (k n : Int) (w : World) (h : StakesAt sb F m s w) (hE : Errs A S w) (h2 : 2 ∈ S) (h4 : 4 ∈ S) :
    Calls Tryz.prog 137 #[.pointer (some ⟨sb, 0, none⟩), .int .i64 k, .int .i64 n] w fun e w' => e = .returned (ev A (s.addOp k n).1) ∧ StakesP sb F (m + 1) (s.addOp k n).2 w w' := by
  obtain ⟨L, hL, hF, hlt⟩ := h
  rcases reg_cases hL.ok k with hi | ⟨j, rfl, hj, hi⟩
  · have E := Lib.hid (stake_add_no (n := n) hi)
    have HB := Lib.hid (stake_baker_no A S sb L m s k w hL hi hE h4)
    have HS := Lib.hid (StakesP.refl (F := F) ⟨L, hL, hF, hlt⟩)
    clear hL hF hlt hi hE
    go_enter Tryz.func137, Tryz.ntmps137
    go_wp2_with (go_at_call 78; refine HB.out.mono ?_; rintro e w' ⟨rfl, d, rfl⟩)
    go_ret
    rw [E.out]
    exact ⟨rfl, (HS.out.mono (Nat.le_succ m)).drewN d⟩
  · obtain ⟨q, hq, hg⟩ := SS.is_some hi
    have E := Lib.hid (stake_add_yes (n := n) hq)
    have HB := Lib.hid (stake_baker_yes sb L m s j w hL hj hi)
    obtain ⟨c0, c1⟩ := hL.baker hj hi
    have HJ := Lib.hid (pool_Add A S _ _ m q n w hE h2 h4 (hL.poo j none q hj hg).1)
    have hok := SS.addOp_ok hL.ok j n
    rw [stake_add_yes hq] at hok
    obtain ⟨g1, g2⟩ := SS.setP_get hL.ok hj (q.addOp n).2
    have HT := Lib.hid (fun w' (hp : PoolP (L.pb j none) (L.pm j none) (m + 1) (q.addOp n).2 w w') => hL.turned hF hlt hj hg hp (Nat.le_succ m) hok (fun j' hj' => g1 j' hj' hi) g2)
    clear hL hF hlt hi hE hq hg hok g1 g2
    go_enter Tryz.func137, Tryz.ntmps137
    go_wp2_with (first
      | (go_at_call 78; refine HB.out.mono ?_; rintro e w' ⟨rfl, rfl⟩)
      | (go_at_call 164; refine HJ.out.mono ?_; rintro e w' ⟨rfl, hp⟩))
    go_ret
    rw [E.out]
    exact ⟨rfl, HT.out _ hp⟩
end Go.Proofs.YtajnfkmkombajabGreatDoor
namespace Go.Proofs.YtajnfkmkombajabGreatDoor
open Go.RowKit Go.Maps

theorem role_new {F : Nat → Prop} {L : Lay} {w : World} (hF : ∀ b, L.role b ≠ .none → F b) (hlt : ∀ b, F b → b < w.heap.size) {x : Nat} (hx : w.heap.size ≤ x) : L.role x = .none := by
  apply Classical.byContradiction
  intro h
  have := hlt _ (hF _ h); omega

theorem StakesL.reg {sb n : Nat} {F : Nat → Prop} {L : Lay} {s : SS} {w W : World} (h : StakesL sb L n s w) (hF : ∀ b, L.role b ≠ .none → F b) (hlt : ∀ b, F b → b < w.heap.size) {k : Nat} (hk : k < 3) (hi : s.is k = false)
    (hb : Below w.heap.size w W) {pb pm wm bb : Nat} (n1 : w.heap.size ≤ pb) (n2 : w.heap.size ≤ pm) (n3 : w.heap.size ≤ wm) (n4 : w.heap.size ≤ bb) (d1 : pb ≠ pm) (d2 : pb ≠ wm) (d3 : pb ≠ bb) (d4 : pm ≠ wm) (d5 : pm ≠ bb) (d6 : wm ≠ bb)
    (hp : PoolAt pb pm n QS.new W) (hm : W.ownsMap Tryz.prog 3 blkElem wm n (.map [] : DataW Unit)) (hr : RowAt bb 93 [.pointer (some ⟨pb, 0, none⟩), .map (some wm)] W) :
    StakesP sb F n (s.setP k QS.new) w (W.setCell ⟨sb, k, none⟩ (.pointer (some ⟨bb, 0, none⟩))) := by
  have rsb : w.heap.size ≠ sb := by have := hlt _ (hF sb (by rw [h.rtop]; simp)); omega
  have lsb := hlt _ (hF sb (by rw [h.rtop]; simp))
  have hkeep : Keep (fun b => b = sb) w (W.setCell ⟨sb, k, none⟩ (.pointer (some ⟨bb, 0, none⟩))) := Keep.put (Keep.of_below hb) _
  have hset : Keep (fun b => b = sb) W (W.setCell ⟨sb, k, none⟩ (.pointer (some ⟨bb, 0, none⟩))) := Keep.put (Keep.refl _ _) _
  have hsz := hb.size
  have hok := h.ok.setP (k := (k : Int)) (by omega) (by omega) QS.new_ok
  have hpool : ∀ j : Nat, (s.setP k QS.new).pool j = if (j : Int) = k then some QS.new else s.pool j := fun j => SS.pool_setP h.ok (by omega) (by omega) QS.new j
  have his : ∀ j : Nat, j ≠ k → (s.setP k QS.new).is j = s.is j := fun j hj => by unfold SS.is; rw [hpool, if_neg (by omega)]
  have hisk : (s.setP k QS.new).is k = true := by unfold SS.is; rw [hpool, if_pos rfl]; rfl
  have hnone : ∀ c, s.find k c = none := fun c => by
    cases hf : s.find k c with
    | none => rfl
    | some q => have := (h.ok.waits _ (SS.find_some hf)).2.1; simp only at this; rw [hi] at this; cases this
  have rold : ∀ x, L.role x ≠ .none → x ≠ pb ∧ x ≠ pm ∧ x ≠ wm ∧ x ≠ bb := fun x hx => by have := hlt _ (hF x hx); omega
  refine ⟨hkeep.mono (fun i hi' => by rw [hi']; exact hF sb (by rw [h.rtop]; simp)), ⟨fun j => if j = k then bb else L.bb j, fun j => if j = k then wm else L.wm j, fun j oc => if j = k ∧ oc = none then pb else L.pb j oc, fun j oc => if j = k ∧ oc = none then pm else L.pm j oc,
    fun x => if x = pb then .poo k none else if x = pm then .map k none else if x = wm then .wai k else if x = bb then .bak k else L.role x⟩, ?_, fun b hb' => ?_, grownF_lt hlt hkeep.size⟩
  · have roleo : ∀ x, L.role x ≠ .none → (if x = pb then Role.poo k none else if x = pm then .map k none else if x = wm then .wai k else if x = bb then .bak k else L.role x) = L.role x := fun x hx => by
      obtain ⟨q1, q2, q3, q4⟩ := rold x hx
      rw [if_neg q1, if_neg q2, if_neg q3, if_neg q4]
    refine ⟨hok, ?_, ?_, fun j hj hij => ?_, fun j hj hij => ?_, fun j oc q hj hg => ?_⟩
    · have ht := (h.top.below hb lsb).set k (.pointer (some ⟨bb, 0, none⟩))
      have e : ∀ j, bptr (s.setP k QS.new) ⟨fun j => if j = k then bb else L.bb j, fun j => if j = k then wm else L.wm j, fun j oc => if j = k ∧ oc = none then pb else L.pb j oc, fun j oc => if j = k ∧ oc = none then pm else L.pm j oc,
          fun x => if x = pb then .poo k none else if x = pm then .map k none else if x = wm then .wai k else if x = bb then .bak k else L.role x⟩ j = if j = k then .pointer (some ⟨bb, 0, none⟩) else bptr s L j := fun j => by
        unfold bptr
        by_cases hjk : j = k
        · subst hjk; rw [hisk]; simp
        · rw [his j hjk]; simp [hjk]
      rw [e 0, e 1, e 2]
      match k, hk with
      | 0, _ => exact ht
      | 1, _ => exact ht
      | 2, _ => exact ht
    · simp only; rw [roleo sb (by rw [h.rtop]; simp)]; exact h.rtop
    · simp only
      by_cases hjk : j = k
      · subst hjk
        simp only [if_true, and_self]
        refine ⟨hr.keep hset (by have := hr.lt; omega), ?_⟩
        rw [if_neg (fun e => d3 e.symm), if_neg (fun e => d5 e.symm), if_neg (fun e => d6 e.symm)]
      · rw [his j hjk] at hij
        obtain ⟨q1, q2⟩ := h.bak j hj hij
        simp only [hjk, if_false, false_and]
        exact ⟨q1.keep hkeep (by intro e; rw [e, h.rtop] at q2; cases q2), by rw [roleo _ (by rw [q2]; simp)]; exact q2⟩
    · simp only
      by_cases hjk : j = k
      · subst hjk
        simp only [if_true]
        refine ⟨by rw [if_neg (fun e => d2 e.symm), if_neg (fun e => d4 e.symm)], .map [], hm.setCell (a := ⟨sb, j, none⟩) (by simp only; omega) _, fun c => ?_⟩
        have e : (s.setP j QS.new).find j c = none := hnone c
        rw [e]
        show (DataW.map [] : DataW Unit).atKey _ _ = _
        rw [atKey_of_not_has (by rfl)]; rfl
      · rw [his j hjk] at hij
        obtain ⟨q1, D, q2, q3⟩ := h.wai j hj hij
        simp only [hjk, if_false]
        obtain ⟨es, clock, e1, e2⟩ := q2
        refine ⟨by rw [roleo _ (by rw [q1]; simp)]; exact q1, D, ⟨es, clock, hkeep.heap e1 (by intro e; rw [e, h.rtop] at q1; cases q1), e2⟩, fun c => ?_⟩
        rw [q3 c]
        unfold waitD
        have e : (s.setP k QS.new).find j c = s.find j c := rfl
        rw [e]; simp
    · simp only
      by_cases hjk : j = k ∧ oc = none
      · obtain ⟨rfl, rfl⟩ := hjk
        have hg' : (s.setP j QS.new).P.getD j none = some q := hg
        rw [← SS.pool_nat, hpool, if_pos rfl] at hg'
        cases hg'
        simp only [and_self, if_true]
        refine ⟨hp.keep hset (by omega) (by omega), by simp, by rw [if_neg (fun e => d1 e.symm)]⟩
      · have hg' : s.get j oc = some q := by
          cases oc with
          | some c => exact hg
          | none =>
            have hg2 : (s.setP k QS.new).P.getD j none = some q := hg
            rw [← SS.pool_nat, hpool, if_neg (fun e => hjk ⟨by omega, rfl⟩), SS.pool_nat] at hg2
            exact hg2
        obtain ⟨q1, q2, q3⟩ := h.poo j oc q hj hg'
        simp only [hjk, if_false]
        refine ⟨q1.keep hkeep (by intro e; rw [e, h.rtop] at q2; cases q2) (by intro e; rw [e, h.rtop] at q3; cases q3), by rw [roleo _ (by rw [q2]; simp)]; exact q2, by rw [roleo _ (by rw [q3]; simp)]; exact q3⟩
  · by_cases hold : L.role b = .none
    · simp only at hb'
      have hx : b = pb ∨ b = pm ∨ b = wm ∨ b = bb := by
        apply Classical.byContradiction
        intro hn
        simp only [not_or] at hn
        obtain ⟨q1, q2, q3, q4⟩ := hn
        rw [if_neg q1, if_neg q2, if_neg q3, if_neg q4] at hb'
        exact hb' hold
      have h1 := hp.lt; have h2 := hm.lt; have h3 := hr.lt
      have hs2 : (W.setCell ⟨sb, k, none⟩ (.pointer (some ⟨bb, 0, none⟩))).heap.size = W.heap.size := by simp [World.setCell]
      right
      rw [hs2]
      rcases hx with rfl | rfl | rfl | rfl <;> omega
    · exact .inl (hF b hold)

theorem reg_no {s : SS} {k : Int} (h : k < 0 ∨ 3 ≤ k) : s.regOp k = (2, s) := by unfold SS.regOp; rw [if_pos h]
theorem reg_is {s : SS} {k : Int} (h : ¬ (k < 0 ∨ 3 ≤ k)) (hi : s.is k = true) : s.regOp k = (5, s) := by unfold SS.regOp; rw [if_neg h, if_pos hi]
theorem reg_in {s : SS} {k : Int} (h : ¬ (k < 0 ∨ 3 ≤ k)) (hi : s.is k = false) : s.regOp k = (0, s.setP k QS.new) := by unfold SS.regOp; rw [if_neg h, if_neg (by simp [hi])]

set_option maxRecDepth 8000 in
set_option maxHeartbeats 1000000 in
theorem stake_Register (A : Nat → Addr) (S : List Nat) (sb : Nat) (F : Nat → Prop) (m : Nat) (s : SS) (k : Int) (w : World) (h : StakesAt sb F m s w) (hE : Errs A S w) (h2 : 2 ∈ S) (h5 : 5 ∈ S) :
    Calls Tryz.prog 18 #[.pointer (some ⟨sb, 0, none⟩), .int .i64 k] w fun e w' => e = .returned (ev A (s.regOp k).1) ∧ StakesP sb F m (s.regOp k).2 w w' := by
  have g2 : w.cell? ⟨0, 0, none⟩ = some (.iface 235 (.pointer (some (A 2)))) := hE.cell 2 h2
  have g5 : w.cell? ⟨4, 0, none⟩ = some (.iface 235 (.pointer (some (A 5)))) := hE.cell 5 h5
  clear hE
  have hok := h.ok
  have HS := Lib.hid (StakesP.refl h)
  by_cases hb : k < 0 ∨ 3 ≤ k
  · have E := Lib.hid (reg_no (s := s) hb)
    have hw : k < 0 ∨ (0 ≤ k ∧ 3 ≤ k) := by omega
    clear h hb
    rcases hw with h0 | ⟨h0, h3⟩
    all_goals
      go_enter Tryz.func18, Tryz.ntmps18
      go_wp2
      go_ret
      rw [E.out]
      exact ⟨rfl, HS.out⟩
  · obtain ⟨L, hL, hF, hlt⟩ := h
    have HI := Lib.hid (stake_Is sb L m s k w hL)
    have k0 : 0 ≤ k := by omega
    have k3 : k < 3 := by omega
    cases hi : s.is k with
    | true =>
      have E := Lib.hid (reg_is hb hi)
      rw [hi] at HI
      clear hL hF hlt hb hi hok
      go_enter Tryz.func18, Tryz.ntmps18
      go_wp2_with (go_at_call 29; refine HI.out.mono ?_; rintro e w' ⟨rfl, rfl⟩)
      go_ret
      rw [E.out]
      exact ⟨rfl, HS.out⟩
    | false =>
      have E := Lib.hid (reg_in hb hi)
      rw [hi] at HI
      obtain ⟨j, rfl⟩ := Int.eq_ofNat_of_zero_le k0
      have hj : j < 3 := by omega
      have HC := hL.cell hj
      rw [bptr_no hi] at HC
      have fz := hL.top.frozen j
      have lsb := hlt _ (hF sb (by rw [hL.rtop]; simp))
      have HR := Lib.hid (fun W pb pm wm bb hW n1 n2 n3 n4 d1 d2 d3 d4 d5 d6 hp hm hr => hL.reg hF hlt hj hi (W := W) hW (pb := pb) (pm := pm) (wm := wm) (bb := bb) n1 n2 n3 n4 d1 d2 d3 d4 d5 d6 hp hm hr)
      have hmm := @run_makeMap Tryz.prog
      clear hL hF hlt hb hi hok
      go_enter Tryz.func18, Tryz.ntmps18
      go_wp2_with (go_at_call 29; refine HI.out.mono ?_; rintro e w' ⟨rfl, rfl⟩)
      go_region_with (go_at_call 30; refine (pool_New _).mono ?_; rintro e w1 ⟨mb, rfl, hb1, hmb, hp1⟩; have hs1 := hb1.size; have ls1 : sb < w1.heap.size := (by simp at hs1; omega); have hc1 : w1.cell? ⟨sb, j, none⟩ = some (.pointer none) := (by rw [hb1.cell (p := ⟨sb, j, none⟩) (by simp; omega)]; simp [go_sem, lsb, HC]); have hf1 : w1.frozen? ⟨sb, j, none⟩ = false := (by rw [hb1.frozen (p := ⟨sb, j, none⟩) (by simp; omega)]; simp [go_sem, lsb, fz]))
      all_goals
        go_wp2
        go_ret
        rw [E.out]
        refine ⟨rfl, ?_⟩
      · have b1 : Below w.heap.size w w1 := ⟨hb1.os, hb1.tape, hb1.output, hb1.size, hb1.block⟩
        have hp1' : PoolAt (w.heap.size + 1) mb 0 QS.new w1 := hp1
        have hmb' : w.heap.size ≤ mb := hmb
        have hl := hp1'.lt
        have hne := hp1'.ne
        have hsz : w.heap.size ≤ w1.heap.size := hs1
        have := HR.out ((w1.alloc (.map #[] 0)).alloc (.cells #[.pointer (some ⟨w.heap.size + 1, 0, none⟩), .map (some w1.heap.size)] 93)) (w.heap.size + 1) mb w1.heap.size (w1.heap.size + 1)
          ((b1.alloc b1.size _).alloc (by simp; omega) _) (by omega) hmb' hsz (by omega) hne (by omega) (by omega) (by omega) (by omega) (by omega)
          ((hp1'.mono (Nat.zero_le m)).keep (F := fun _ => False) (((Keep.refl _ _).alloc _).alloc _) id id) (((World.ownsMap_made w1 _ _ _).alloc _).mono (Nat.zero_le m)) (by
            have := RowAt.new (w1.alloc (.map #[] 0)) 93 [.pointer (some ⟨w.heap.size + 1, 0, none⟩), .map (some w1.heap.size)]
            simpa using this)
        rw [World.setCell_alloc_past _ _ _ _ (by simp; omega), World.setCell_alloc_past _ _ _ _ ls1] at this
        exact this
      · have hsa : (w.alloc (.map #[] 0)).heap.size = w.heap.size + 1 := by simp
        have b0 : Below (w.alloc (.map #[] 0)).heap.size (w.alloc (.map #[] 0)) w1 := ⟨hb1.os, hb1.tape, hb1.output, hb1.size, hb1.block⟩
        have b1 : Below w.heap.size w w1 := btrans ((Below.refl _ w).alloc (Nat.le_refl _) (.map #[] 0)) b0
        have hp1' : PoolAt ((w.alloc (.map #[] 0)).heap.size + 1) mb 0 QS.new w1 := hp1
        rw [hsa] at hp1'
        have hmb' : (w.alloc (.map #[] 0)).heap.size ≤ mb := hmb
        have hl := hp1'.lt
        have hne := hp1'.ne
        have hsz : (w.alloc (.map #[] 0)).heap.size ≤ w1.heap.size := hs1
        have hm0 : w1.ownsMap Tryz.prog 3 blkElem w.heap.size 0 (.map [] : DataW Unit) := by
          obtain ⟨es, clock, e1, e2⟩ := World.ownsMap_made (H := Unit) w Tryz.prog 3 blkElem
          exact ⟨es, clock, below_heap b0 e1 (by omega), e2⟩
        have := HR.out (w1.alloc (.cells #[.pointer (some ⟨w.heap.size + 1 + 1, 0, none⟩), .map (some w.heap.size)] 93)) (w.heap.size + 1 + 1) mb w.heap.size w1.heap.size
          (b1.alloc b1.size _) (by omega) (by omega) (Nat.le_refl _) (by omega) hne (by omega) (by omega) (by omega) (by omega) (by omega)
          ((hp1'.mono (Nat.zero_le m)).keep (F := fun _ => False) ((Keep.refl _ _).alloc _) id id) ((hm0.alloc _).mono (Nat.zero_le m)) (RowAt.new w1 93 [.pointer (some ⟨w.heap.size + 1 + 1, 0, none⟩), .map (some w.heap.size)])
        rw [World.setCell_alloc_past _ _ _ _ ls1] at this
        exact this

end Go.Proofs.YtajnfkmkombajabGreatDoor
namespace Go.Proofs.YtajnfkmkombajabGreatDoor
open Go.RowKit Go.Maps

/-- baker k's pool is another one now, and so is (or may be) what waits since cycle c -/
theorem StakesL.left {sb n : Nat} {F : Nat → Prop} {L : Lay} {s : SS} {w W : World} (h : StakesL sb L n s w) (hF : ∀ b, L.role b ≠ .none → F b) (hlt : ∀ b, F b → b < w.heap.size) {k : Nat} (hk : k < 3) (hi : s.is k = true) {q q' v' : QS} (hq : s.get k none = some q) {c : Int}
    (hs : ((s.setP k q').setW k c v').Ok) {m pb mb wb wx : Nat} (hm : n ≤ m)
    (hK : Keep (fun b => b = L.bb k ∨ b = L.wm k ∨ L.role b = .poo k (some c) ∨ L.role b = .map k (some c)) w W)
    (hr : RowAt (L.bb k) 93 [.pointer (some ⟨pb, 0, none⟩), .map (some (L.wm k))] W)
    (hD : ∃ D : DataW Unit, W.ownsMap Tryz.prog 3 blkElem (L.wm k) m D ∧ ∀ c' : Int, D.atKey (.int .i64 c') .nil = if c' = c then .lit (.int .i64 wb) else waitD L k c' (s.find k c'))
    (hp : PoolAt pb mb m q' W) (hv : PoolAt wb wx m v' W) (n1 : w.heap.size ≤ pb) (n2 : w.heap.size ≤ mb) (d1 : wb ≠ pb) (d2 : wb ≠ mb) (d3 : wx ≠ pb) (d4 : wx ≠ mb)
    (r1 : (w.heap.size ≤ wb ∧ w.heap.size ≤ wx) ∨ (wb = L.pb k (some c) ∧ wx = L.pm k (some c) ∧ (s.find k c).isSome = true)) :
    StakesP sb F m ((s.setP k q').setW k c v') w W := by
  have hltr : ∀ x, L.role x ≠ .none → x < w.heap.size := fun x hx => hlt x (hF x hx)
  obtain ⟨hp0, rp0, rm0⟩ := h.poo k none q hk hq
  obtain ⟨hb0, rb0⟩ := h.bak k hk hi
  obtain ⟨rw0, D0, hD0, hD1⟩ := h.wai k hk hi
  have d5 := hp.ne
  have d6 := hv.ne
  have rwb : (w.heap.size ≤ wb ∧ w.heap.size ≤ wx) ∨ (L.role wb = .poo k (some c) ∧ L.role wx = .map k (some c)) := by
    rcases r1 with r1 | ⟨rfl, rfl, r⟩
    · exact .inl r1
    · obtain ⟨v, hv'⟩ := Option.isSome_iff_exists.1 r
      obtain ⟨_, a, b⟩ := h.poo k (some c) v hk hv'
      exact .inr ⟨a, b⟩
  have hls := hp.lt
  have hlv := hv.lt
  have hne : ∀ x r, L.role x = r → r ≠ .none → r ≠ .poo k (some c) → r ≠ .map k (some c) → x ≠ pb ∧ x ≠ mb ∧ x ≠ wb ∧ x ≠ wx := by
    intro x r hx h0 h1 h2
    have hl := hltr x (by rw [hx]; exact h0)
    refine ⟨by omega, by omega, ?_, ?_⟩
    · rintro rfl
      rcases rwb with ⟨a, _⟩ | ⟨a, _⟩
      · omega
      · exact h1 (hx.symm.trans a)
    · rintro rfl
      rcases rwb with ⟨_, a⟩ | ⟨_, a⟩
      · omega
      · exact h2 (hx.symm.trans a)
  let role' : Nat → Role := fun x => if x = pb then .poo k none else if x = mb then .map k none else if x = wb then .poo k (some c) else if x = wx then .map k (some c) else if x = L.pb k none ∨ x = L.pm k none then .none else L.role x
  have hrole : ∀ x r, L.role x = r → r ≠ .none → r ≠ .poo k none → r ≠ .map k none → r ≠ .poo k (some c) → r ≠ .map k (some c) → role' x = r := by
    intro x r hx h0 h1 h2 h3 h4
    obtain ⟨e1, e2, e3, e4⟩ := hne x r hx h0 h3 h4
    show (if x = pb then Role.poo k none else if x = mb then .map k none else if x = wb then .poo k (some c) else if x = wx then .map k (some c) else if x = L.pb k none ∨ x = L.pm k none then .none else L.role x) = r
    rw [if_neg e1, if_neg e2, if_neg e3, if_neg e4, if_neg, hx]
    rintro (rfl | rfl)
    · exact h1 (hx.symm.trans rp0)
    · exact h2 (hx.symm.trans rm0)
  have hnF : ∀ x r, L.role x = r → r ≠ .none → r ≠ .bak k → r ≠ .wai k → r ≠ .poo k (some c) → r ≠ .map k (some c) → ¬ (x = L.bb k ∨ x = L.wm k ∨ L.role x = .poo k (some c) ∨ L.role x = .map k (some c)) := by
    rintro x r hx h0 h1 h2 h3 h4 (rfl | rfl | e | e)
    · exact h1 (hx.symm.trans rb0)
    · exact h2 (hx.symm.trans rw0)
    · exact h3 (hx.symm.trans e)
    · exact h4 (hx.symm.trans e)
  have hfind : ∀ (j : Nat) (c' : Int), ((s.setP k q').setW k c v').find j c' = if (j : Int) = k ∧ c' = c then some v' else s.find j c' := fun j c' => by
    rw [SS.find_setW]; rfl
  have hgetP : ∀ j : Nat, j < 3 → ((s.setP k q').setW k c v').get j none = if j = k then some q' else s.get j none := fun j hj => by
    show (s.setP k q').P.getD j none = if j = k then some q' else s.P.getD j none
    rw [← SS.pool_nat, ← SS.pool_nat, SS.pool_setP h.ok (by omega) (by omega)]
    by_cases e : j = k
    · rw [if_pos e, if_pos (by omega)]
    · rw [if_neg e, if_neg (by omega)]
  have his : ∀ j : Nat, j < 3 → ((s.setP k q').setW k c v').is j = s.is j := fun j hj => by
    rw [SS.is_pool, SS.is_pool, hgetP j hj]
    split
    · next e => subst e; rw [← SS.is_pool, hi]; rfl
    · rfl
  refine ⟨hK.mono (fun b hb => ?_), ⟨L.bb, L.wm, fun j oc => if j = k ∧ oc = none then pb else if j = k ∧ oc = some c then wb else L.pb j oc, fun j oc => if j = k ∧ oc = none then mb else if j = k ∧ oc = some c then wx else L.pm j oc, role'⟩, ⟨hs, ?_, ?_, fun j hj hij => ?_, fun j hj hij => ?_, fun j oc r hj hg => ?_⟩, fun b hb => ?_, grownF_lt hlt hK.size⟩
  · apply hF
    rcases hb with rfl | rfl | e | e
    · rw [rb0]; simp
    · rw [rw0]; simp
    · rw [e]; simp
    · rw [e]; simp
  · have e : ∀ j, j < 3 → bptr ((s.setP k q').setW k c v') ⟨L.bb, L.wm, fun j oc => if j = k ∧ oc = none then pb else if j = k ∧ oc = some c then wb else L.pb j oc, fun j oc => if j = k ∧ oc = none then mb else if j = k ∧ oc = some c then wx else L.pm j oc, role'⟩ j = bptr s L j := fun j hj => by
      unfold bptr; rw [his j hj]
    rw [e 0 (by omega), e 1 (by omega), e 2 (by omega)]
    exact h.top.keep hK (hnF _ _ h.rtop (by simp) (by simp) (by simp) (by simp) (by simp))
  · exact hrole _ _ h.rtop (by simp) (by simp) (by simp) (by simp) (by simp)
  · rw [his j hj] at hij
    obtain ⟨h1, h2⟩ := h.bak j hj hij
    refine ⟨?_, hrole _ _ h2 (by simp) (by simp) (by simp) (by simp) (by simp)⟩
    by_cases hjk : j = k
    · subst hjk; simp only [and_self, if_true]; exact hr
    · simp only [hjk, false_and, if_false]
      exact h1.keep hK (hnF _ _ h2 (by simp) (by simp [hjk]) (by simp) (by simp) (by simp))
  · rw [his j hj] at hij
    obtain ⟨h1, D, h2, h3⟩ := h.wai j hj hij
    refine ⟨hrole _ _ h1 (by simp) (by simp) (by simp) (by simp) (by simp), ?_⟩
    by_cases hjk : j = k
    · subst hjk
      obtain ⟨D', hD', hD''⟩ := hD
      refine ⟨D', hD', fun c' => ?_⟩
      rw [hD'' c', hfind j c']
      by_cases hc : c' = c
      · subst hc; rw [if_pos rfl, if_pos ⟨rfl, rfl⟩]; simp [waitD]
      · rw [if_neg hc, if_neg (by simp [hc])]
        unfold waitD; simp [hc]
    · obtain ⟨es, clock, e1, e2⟩ := h2.mono hm
      refine ⟨D, ⟨es, clock, hK.heap e1 (hnF _ _ h1 (by simp) (by simp) (by simp [hjk]) (by simp) (by simp)), e2⟩, fun c' => ?_⟩
      rw [h3 c', hfind j c', if_neg (by rintro ⟨e, _⟩; exact hjk (by omega))]
      unfold waitD; simp [hjk]
  · cases oc with
    | none =>
      rw [hgetP j hj] at hg
      by_cases hjk : j = k
      · subst hjk; rw [if_pos rfl] at hg; cases hg
        simp only [and_self, if_true]
        refine ⟨hp, ?_, ?_⟩
        · show (if pb = pb then Role.poo j none else _) = _; rw [if_pos rfl]
        · show (if mb = pb then Role.poo j none else if mb = mb then .map j none else _) = _; rw [if_neg (fun e => d5 e.symm), if_pos rfl]
      · rw [if_neg hjk] at hg
        obtain ⟨h1, h2, h3⟩ := h.poo j none r hj hg
        simp only [hjk, false_and, if_false]
        exact ⟨(h1.mono hm).keep hK (hnF _ _ h2 (by simp) (by simp) (by simp) (by simp) (by simp)) (hnF _ _ h3 (by simp) (by simp) (by simp) (by simp) (by simp)), hrole _ _ h2 (by simp) (by simp [hjk]) (by simp) (by simp) (by simp), hrole _ _ h3 (by simp) (by simp) (by simp [hjk]) (by simp) (by simp)⟩
    | some c' =>
      have hg' : ((s.setP k q').setW k c v').find j c' = some r := hg
      rw [hfind j c'] at hg'
      by_cases hjk : j = k ∧ c' = c
      · obtain ⟨rfl, rfl⟩ := hjk
        rw [if_pos ⟨rfl, rfl⟩] at hg'; cases hg'
        simp only [and_self, if_true, reduceCtorEq, and_false, if_false]
        refine ⟨hv, ?_, ?_⟩
        · show (if wb = pb then Role.poo j none else if wb = mb then .map j none else if wb = wb then .poo j (some c') else _) = _; rw [if_neg d1, if_neg d2, if_pos rfl]
        · show (if wx = pb then Role.poo j none else if wx = mb then .map j none else if wx = wb then .poo j (some c') else if wx = wx then .map j (some c') else _) = _; rw [if_neg d3, if_neg d4, if_neg (fun e => d6 e.symm), if_pos rfl]
      · rw [if_neg (by rintro ⟨e, e'⟩; exact hjk ⟨by omega, e'⟩)] at hg'
        obtain ⟨h1, h2, h3⟩ := h.poo j (some c') r hj hg'
        have ne1 : Role.poo j (some c') ≠ .poo k (some c) := by intro e; injection e with e1 e2; injection e2 with e2; exact hjk ⟨e1, e2⟩
        have ne2 : Role.map j (some c') ≠ .map k (some c) := by intro e; injection e with e1 e2; injection e2 with e2; exact hjk ⟨e1, e2⟩
        have e0 : ¬ (j = k ∧ some c' = some c) := by rintro ⟨e1, e2⟩; injection e2 with e2; exact hjk ⟨e1, e2⟩
        simp only [reduceCtorEq, and_false, if_false, e0]
        exact ⟨(h1.mono hm).keep hK (hnF _ _ h2 (by simp) (by simp) (by simp) ne1 (by simp)) (hnF _ _ h3 (by simp) (by simp) (by simp) (by simp) ne2), hrole _ _ h2 (by simp) (by simp) (by simp) ne1 (by simp), hrole _ _ h3 (by simp) (by simp) (by simp) (by simp) ne2⟩
  · have hb : role' b ≠ .none := hb
    by_cases hold : L.role b = .none
    · right
      have hx : b = pb ∨ b = mb ∨ b = wb ∨ b = wx := by
        apply Classical.byContradiction
        intro hn
        simp only [not_or] at hn
        obtain ⟨q1, q2, q3, q4⟩ := hn
        apply hb
        show (if b = pb then Role.poo k none else if b = mb then .map k none else if b = wb then .poo k (some c) else if b = wx then .map k (some c) else if b = L.pb k none ∨ b = L.pm k none then .none else L.role b) = .none
        rw [if_neg q1, if_neg q2, if_neg q3, if_neg q4, hold]; split <;> rfl
      rcases hx with rfl | rfl | rfl | rfl
      · omega
      · omega
      · rcases rwb with ⟨a, _⟩ | ⟨a, _⟩
        · omega
        · rw [hold] at a; cases a
      · rcases rwb with ⟨_, a⟩ | ⟨_, a⟩
        · omega
        · rw [hold] at a; cases a
    · exact .inl (hF b hold)
end Go.Proofs.YtajnfkmkombajabGreatDoor
namespace Go.Proofs.YtajnfkmkombajabGreatDoor
open Go.RowKit Go.Maps

set_option maxRecDepth 100000 in
set_option maxHeartbeats 1000000 in
theorem maps_Clone (b : Nat) (es : Array MapEntry) (clock : Nat) (w : World) (hb : w.heap[b]? = some (.map es clock)) :
    Calls Tryz.prog 127 #[.map (some b)] w fun e w' => e = .returned (.map (some w.heap.size)) ∧ w' = w.alloc (.map es clock) := by
  have hq := fun w => run_eql_map_nil_sl (P := Tryz.prog) w 129 _ _ (some b) Tryz.underlying129
  go_enter Tryz.func127, Tryz.ntmps127
  go_wp2
  rw [run_callFunc_extern Tryz.func158 (by kernel_rfl) (by kernel_rfl) (by kernel_rfl) (e := Extern.MapsClone.clone) (by kernel_rfl), run_maps_clone_sl w 129 hb]
  simp only [Result.andThen]
  rw [Oper.upon_value]
  go_wp2
  rw [run_typeAssert_map_sl _ 129 _ _ _ _ Tryz.underlying129]
  simp only [Result.andThen]
  rw [Oper.upon_value]
  go_wp2
  go_ret
  exact ⟨rfl, rfl⟩

theorem pool_copied {b mb n : Nat} {q : QS} {w : World} (h : PoolAt b mb n q w) {es : Array MapEntry} {clock : Nat} (hb : w.heap[mb]? = some (.map es clock)) :
    Below w.heap.size w ((w.drew.alloc (.map es clock)).alloc (.cells #[.int .i64 q.total, .int .i64 q.all, .map (some w.heap.size)] 131)) ∧
    PoolAt (w.heap.size + 1) w.heap.size n q ((w.drew.alloc (.map es clock)).alloc (.cells #[.int .i64 q.total, .int .i64 q.all, .map (some w.heap.size)] 131)) ∧
    ((w.drew.alloc (.map es clock)).alloc (.cells #[.int .i64 q.total, .int .i64 q.all, .map (some w.heap.size)] 131)).heap.size = w.heap.size + 2 := by
  have hs : (w.drew.alloc (.map es clock)).heap.size = w.heap.size + 1 := by
    show (w.alloc (.map es clock)).heap.size = _
    simp
  obtain ⟨D, ⟨es', clock', hb', F, hn, hD⟩, hat⟩ := h.own
  rw [hb] at hb'; cases hb'
  refine ⟨(((Below.refl _ w).drewN 1).alloc (Nat.le_refl _) _).alloc (Nat.le_of_lt (by rw [show ((w.drewN 1).alloc (.map es clock)).heap.size = w.heap.size + 1 from hs]; exact Nat.lt_succ_self _)) _, ⟨h.ok, ?_, ⟨D, ?_, hat⟩, by omega⟩, by
    rw [World.size_alloc, hs]⟩
  · have := RowAt.new (w.drew.alloc (.map es clock)) 131 [.int .i64 q.total, .int .i64 q.all, .map (some w.heap.size)]
    rw [hs] at this
    exact this
  · exact World.ownsMap.alloc ⟨es, clock, (MapKept.heap_alloc w.drew _).1, F, hn, hD⟩ _

set_option maxRecDepth 8000 in
set_option maxHeartbeats 2000000 in
/-- the copy: new blocks, the same shares -/
theorem pool_Copy (b mb n : Nat) (q : QS) (w : World) (h : PoolAt b mb n q w) : Calls Tryz.prog 106 #[.pointer (some ⟨b, 0, none⟩)] w fun e w' => e = .returned (.pointer (some ⟨w.heap.size + 1, 0, none⟩)) ∧ Below w.heap.size w w' ∧ PoolAt (w.heap.size + 1) w.heap.size n q w' ∧ w'.heap.size = w.heap.size + 2 := by
  have c0 := h.c0
  have c1 := h.c1
  have c2 := h.c2
  have hlt := h.lt.1
  obtain ⟨es, clock, hb, F, hs, hD⟩ := h.own.choose_spec.1
  have HC := Lib.hid (fun (wx : World) (hx : wx.heap = w.heap) => maps_Clone mb es clock wx (by rw [hx]; exact hb))
  have HP := Lib.hid (pool_copied h hb)
  clear h hs F hD hb
  go_enter Tryz.func106, Tryz.ntmps106
  go_wp2_with fail
  go_region_with (go_at_call 127; refine (HC.out w.drew rfl).mono ?_; rintro e w1 ⟨rfl, rfl⟩)
  all_goals
    go_wp2
    go_ret
    exact ⟨rfl, HP.out⟩
end Go.Proofs.YtajnfkmkombajabGreatDoor
namespace Go.Proofs.YtajnfkmkombajabGreatDoor
open Go.RowKit Go.Maps Go.WideElems Go.MapKept Go.ChangeMaps

theorem setBlock_twice (w : World) (b : Nat) (x y : Obj) : setBlock (setBlock w b x) b y = setBlock w b y := by simp [setBlock]
section
variable {H : Type} {P : Program} {k : TypeId} {R : Value → Option (DataW H × List MemPlace)} {w : World} {b n : Nat} {D : DataW H}

/-- the entry at a key is laid (or found); whatever is filled in then, it is as if the key had been stored at once -/
theorem own_entry {t e : TypeId} (h : w.ownsMap P k R b n D) (K : Keyed P k) (ht : P.underlying t = some (.map k e)) (hn : n < maxLen) {z : Value} (hz : ∀ u : World, (zeroValue e).run P u = .ok z u) {key : Value} {kl : Lit} (hkey : keyOf P k key = some kl) :
    ∃ (v0 : Value) (st : Nat) (w1 : World), (Instr.mapEntry t (.map (some b)) key).run P w = .ok (.tuple #[v0, .int .i64 st]) w1 ∧ w.mapTurned w1 b ∧
      ∀ {val : Value} {d : DataW H} {ps : List MemPlace}, R val = some (d, ps) → ∃ w3, (Instr.entryStore t (.map (some b)) (.int .i64 st) val).run P w1 = .ok () w3 ∧ w3.ownsMap P k R b (n + 1) (D.put kl d) ∧ w.mapTurned w3 b := by
  obtain ⟨es, clock, hb, F, hs, hD⟩ := id h
  obtain ⟨s1, s2, _⟩ := F.stamped
  rcases K.find w hkey es.toList F.keys with ⟨h1, h2⟩ | ⟨j, e0, h1, h2, h3⟩
  · refine ⟨z, clock, setBlock w b (.map (es.push ⟨key, z, clock⟩) (clock + 1)), ?_, ⟨es, clock, _, _, hb, rfl⟩, fun {val d ps} hv => ?_⟩
    · simp [Instr.mapEntry, run_underlying ht, MapKept.run_getObj_map hb, K.check w false hkey, h1, hz, MapKept.run_setObj_map _ hb, Result.andThen, setBlock, goInt]
    · obtain ⟨w', hrun, ho, _⟩ := h.update K ht hn hkey hv
      have hup : (Instr.mapUpdate t (.map (some b)) key val).run P w = .ok () (setBlock w b (.map (es.push ⟨key, val, clock⟩) (clock + 1))) := by
        simp [Instr.mapUpdate, run_underlying ht, MapKept.run_getObj_map hb, K.check w false hkey, h1, MapKept.run_setObj_map _ hb, Result.andThen, setBlock]
      rw [hup] at hrun; cases hrun
      refine ⟨_, ?_, ho, ⟨es, clock, _, _, hb, rfl⟩⟩
      have hw1 : (setBlock w b (.map (es.push ⟨key, z, clock⟩) (clock + 1))).heap[b]? = some (.map (es.push ⟨key, z, clock⟩) (clock + 1)) := heap_setBlock_same hb _
      have hidx : (es.push ⟨key, z, clock⟩).findIdx? (fun e => ((e.born : Nat) : Int) == ((clock : Nat) : Int)) = some es.size := by
        rw [findIdx_arr]
        exact findIdx_born (l := (es.push ⟨key, z, clock⟩).toList) (j := es.size) (e0 := ⟨key, z, clock⟩) (by
          simp only [Array.toList_push, List.map_append, List.map_cons, List.map_nil]
          refine List.nodup_append.2 ⟨s2, by simp, fun a ha c hc e1 => ?_⟩
          obtain rfl := List.mem_singleton.1 hc
          obtain ⟨x, hx, rfl⟩ := List.mem_map.1 ha
          have := s1 x hx
          omega) (by simp)
      have hmod : (es.push ⟨key, z, clock⟩).modify es.size (fun e => { e with val := val }) = es.push ⟨key, val, clock⟩ := by
        apply Array.ext'
        rw [Array.toList_modify, Array.toList_push, Array.toList_push, ← Array.length_toList, modify_last]
      have hst : ∀ w1 : World, w1.heap[b]? = some (.map (es.push ⟨key, z, clock⟩) (clock + 1)) → (Instr.entryStore t (.map (some b)) (.int .i64 clock) val).run P w1 = .ok () (setBlock w1 b (.map (es.push ⟨key, val, clock⟩) (clock + 1))) := fun w1 hw1 => by
        simp [Instr.entryStore, MapKept.run_getObj_map hw1, asInt, asIntOf, hidx, hmod, MapKept.run_setObj_map _ hw1, Result.andThen, setBlock]
      rw [hst _ hw1, setBlock_twice]
  · have hj : es[j]? = some e0 := by simpa using h2
    have hsame : es.modify j (fun e => { e with key := key }) = es := by
      apply Array.ext'
      rw [Array.toList_modify, modify_eq_set _ _ _ _ h2]
      have : ({ e0 with key := key } : MapEntry) = e0 := by rw [← h3]
      rw [this]
      exact set_self _ _ _ h2
    refine ⟨e0.val, e0.born, setBlock w b (.map es clock), ?_, ⟨es, clock, _, _, hb, rfl⟩, fun {val d ps} hv => ?_⟩
    · simp [Instr.mapEntry, run_underlying ht, MapKept.run_getObj_map hb, K.check w false hkey, h1, hj, h3, K.stays w hkey, hsame, MapKept.run_setObj_map _ hb, Result.andThen, setBlock, goInt]
    · obtain ⟨w', hrun, ho, _⟩ := h.update K ht hn hkey hv
      have hup : (Instr.mapUpdate t (.map (some b)) key val).run P w = .ok () (setBlock w b (.map (es.modify j (fun e' => { e' with key := key, val := val })) clock)) := by
        simp [Instr.mapUpdate, run_underlying ht, MapKept.run_getObj_map hb, K.check w false hkey, h1, hj, h3, K.stays w hkey, MapKept.run_setObj_map _ hb, Result.andThen, setBlock]
      rw [hup] at hrun; cases hrun
      refine ⟨_, ?_, ho, ⟨es, clock, _, _, hb, rfl⟩⟩
      have hw1 : (setBlock w b (.map es clock)).heap[b]? = some (.map es clock) := heap_setBlock_same hb _
      have hidx : es.findIdx? (fun e => ((e.born : Nat) : Int) == ((e0.born : Nat) : Int)) = some j := by
        rw [findIdx_arr]
        exact findIdx_born s2 h2
      have hmod : es.modify j (fun e => { e with val := val }) = es.modify j (fun e' => { e' with key := key, val := val }) := by
        apply Array.ext'
        rw [Array.toList_modify, Array.toList_modify, modify_eq_set _ _ _ _ h2, modify_eq_set _ _ _ _ h2, ← h3]
      have hst : ∀ w1 : World, w1.heap[b]? = some (.map es clock) → (Instr.entryStore t (.map (some b)) (.int .i64 e0.born) val).run P w1 = .ok () (setBlock w1 b (.map (es.modify j (fun e' => { e' with key := key, val := val })) clock)) := fun w1 hw1 => by
        simp [Instr.entryStore, MapKept.run_getObj_map hw1, asInt, asIntOf, hidx, hmod, MapKept.run_setObj_map _ hw1, Result.andThen, setBlock]
      rw [hst _ hw1, setBlock_twice]
end
end Go.Proofs.YtajnfkmkombajabGreatDoor
