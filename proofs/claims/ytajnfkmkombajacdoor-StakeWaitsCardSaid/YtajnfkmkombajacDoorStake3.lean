/- Contracts: stake.Register; maps.Clone at a pool's map; pool.Copy. -/
import Derived.Test.YtajnfkmkombajacDoorStake2
import Derived.Shelf.SlMaps.Clone
import Derived.Deep.RegionHeld3
set_option linter.unusedVariables false
set_option linter.unusedSimpArgs false
namespace Go.Proofs.YtajnfkmkombajacDoor
open Go.RowKit Go.Maps

theorem role_new {F : Nat → Prop} {L : Lay} {w : World} (hF : ∀ b, L.role b ≠ .none → F b) (hlt : ∀ b, F b → b < w.heap.size) {x : Nat} (hx : w.heap.size ≤ x) : L.role x = .none := by
  apply Classical.byContradiction
  intro h
  have := hlt _ (hF _ h); omega

theorem StakesL.reg {sb n : Nat} {F : Nat → Prop} {L : Lay} {s : SS} {w W : World} (h : StakesL sb L n s w) (hF : ∀ b, L.role b ≠ .none → F b) (hlt : ∀ b, F b → b < w.heap.size) {k : Nat} (hk : k < 3) (hi : s.is k = false)
    (hb : Below w.heap.size w W) {pb pm wm bb : Nat} (n1 : w.heap.size ≤ pb) (n2 : w.heap.size ≤ pm) (n3 : w.heap.size ≤ wm) (n4 : w.heap.size ≤ bb) (d1 : pb ≠ pm) (d2 : pb ≠ wm) (d3 : pb ≠ bb) (d4 : pm ≠ wm) (d5 : pm ≠ bb) (d6 : wm ≠ bb)
    (hp : PoolAt pb pm n QS.new W) (hm : W.ownsMap Tryd.prog 3 blkElem wm n (.map [] : DataW Unit)) (hr : RowAt bb 55 [.pointer (some ⟨pb, 0, none⟩), .map (some wm)] W) :
    StakesP sb F n (s.setP k QS.new) w (W.setCell ⟨sb, k, none⟩ (.pointer (some ⟨bb, 0, none⟩))) := by
  have rsb : w.heap.size ≠ sb := by have := hlt _ (hF sb (by rw [h.rtop]; simp)); omega
  have lsb := hlt _ (hF sb (by rw [h.rtop]; simp))
  have hkeep : Keep (fun b => b = sb) w (W.setCell ⟨sb, k, none⟩ (.pointer (some ⟨bb, 0, none⟩))) := Keep.put (Keep.of_below hb) _
  have hset : Keep (fun b => b = sb) W (W.setCell ⟨sb, k, none⟩ (.pointer (some ⟨bb, 0, none⟩))) := Keep.put (Keep.refl _ _) _
  have hsz := hb.size
  have hok := h.ok.setP (k := (k : Int)) (by omega) (by omega) QS.new_ok
  have hpool : ∀ j : Nat, (s.setP k QS.new).pool j = if (j : Int) = k then some QS.new else s.pool j := fun j => SS.pool_setP h.ok (by omega) (by omega) QS.new j
  have his : ∀ j : Nat, j ≠ k → (s.setP k QS.new).is j = s.is j := fun j hj => by unfold SS.is; rw [hpool, if_neg (by omega)]
  have hisk : (s.setP k QS.new).is k = true := by unfold SS.is; rw [hpool, if_pos rfl]; rfl
  have hnone : ∀ c, s.find k c = none := fun c => by
    cases hf : s.find k c with
    | none => rfl
    | some q => have := (h.ok.waits _ (SS.find_some hf)).2.1; simp only at this; rw [hi] at this; cases this
  have rold : ∀ x, L.role x ≠ .none → x ≠ pb ∧ x ≠ pm ∧ x ≠ wm ∧ x ≠ bb := fun x hx => by have := hlt _ (hF x hx); omega
  refine ⟨hkeep.mono (fun i hi' => by rw [hi']; exact hF sb (by rw [h.rtop]; simp)), ⟨fun j => if j = k then bb else L.bb j, fun j => if j = k then wm else L.wm j, fun j oc => if j = k ∧ oc = none then pb else L.pb j oc, fun j oc => if j = k ∧ oc = none then pm else L.pm j oc,
    fun x => if x = pb then .poo k none else if x = pm then .map k none else if x = wm then .wai k else if x = bb then .bak k else L.role x⟩, ?_, fun b hb' => ?_, grownF_lt hlt hkeep.size⟩
  · have roleo : ∀ x, L.role x ≠ .none → (if x = pb then Role.poo k none else if x = pm then .map k none else if x = wm then .wai k else if x = bb then .bak k else L.role x) = L.role x := fun x hx => by
      obtain ⟨q1, q2, q3, q4⟩ := rold x hx
      rw [if_neg q1, if_neg q2, if_neg q3, if_neg q4]
    refine ⟨hok, ?_, ?_, fun j hj hij => ?_, fun j hj hij => ?_, fun j oc q hj hg => ?_⟩
    · have ht := (h.top.below hb lsb).set k (.pointer (some ⟨bb, 0, none⟩))
      have e : ∀ j, bptr (s.setP k QS.new) ⟨fun j => if j = k then bb else L.bb j, fun j => if j = k then wm else L.wm j, fun j oc => if j = k ∧ oc = none then pb else L.pb j oc, fun j oc => if j = k ∧ oc = none then pm else L.pm j oc,
          fun x => if x = pb then .poo k none else if x = pm then .map k none else if x = wm then .wai k else if x = bb then .bak k else L.role x⟩ j = if j = k then .pointer (some ⟨bb, 0, none⟩) else bptr s L j := fun j => by
        unfold bptr
        by_cases hjk : j = k
        · subst hjk; rw [hisk]; simp
        · rw [his j hjk]; simp [hjk]
      rw [e 0, e 1, e 2]
      match k, hk with
      | 0, _ => exact ht
      | 1, _ => exact ht
      | 2, _ => exact ht
    · simp only; rw [roleo sb (by rw [h.rtop]; simp)]; exact h.rtop
    · simp only
      by_cases hjk : j = k
      · subst hjk
        simp only [if_true, and_self]
        refine ⟨hr.keep hset (by have := hr.lt; omega), ?_⟩
        rw [if_neg (fun e => d3 e.symm), if_neg (fun e => d5 e.symm), if_neg (fun e => d6 e.symm)]
      · rw [his j hjk] at hij
        obtain ⟨q1, q2⟩ := h.bak j hj hij
        simp only [hjk, if_false, false_and]
        exact ⟨q1.keep hkeep (by intro e; rw [e, h.rtop] at q2; cases q2), by rw [roleo _ (by rw [q2]; simp)]; exact q2⟩
    · simp only
      by_cases hjk : j = k
      · subst hjk
        simp only [if_true]
        refine ⟨by rw [if_neg (fun e => d2 e.symm), if_neg (fun e => d4 e.symm)], .map [], hm.setCell (a := ⟨sb, j, none⟩) (by simp only; omega) _, fun c => ?_⟩
        have e : (s.setP j QS.new).find j c = none := hnone c
        rw [e]
        show (DataW.map [] : DataW Unit).atKey _ _ = _
        rw [atKey_of_not_has (by rfl)]; rfl
      · rw [his j hjk] at hij
        obtain ⟨q1, D, q2, q3⟩ := h.wai j hj hij
        simp only [hjk, if_false]
        obtain ⟨es, clock, e1, e2⟩ := q2
        refine ⟨by rw [roleo _ (by rw [q1]; simp)]; exact q1, D, ⟨es, clock, hkeep.heap e1 (by intro e; rw [e, h.rtop] at q1; cases q1), e2⟩, fun c => ?_⟩
        rw [q3 c]
        unfold waitD
        have e : (s.setP k QS.new).find j c = s.find j c := rfl
        rw [e]; simp
    · simp only
      by_cases hjk : j = k ∧ oc = none
      · obtain ⟨rfl, rfl⟩ := hjk
        have hg' : (s.setP j QS.new).P.getD j none = some q := hg
        rw [← SS.pool_nat, hpool, if_pos rfl] at hg'
        cases hg'
        simp only [and_self, if_true]
        refine ⟨hp.keep hset (by omega) (by omega), by simp, by rw [if_neg (fun e => d1 e.symm)]⟩
      · have hg' : s.get j oc = some q := by
          cases oc with
          | some c => exact hg
          | none =>
            have hg2 : (s.setP k QS.new).P.getD j none = some q := hg
            rw [← SS.pool_nat, hpool, if_neg (fun e => hjk ⟨by omega, rfl⟩), SS.pool_nat] at hg2
            exact hg2
        obtain ⟨q1, q2, q3⟩ := h.poo j oc q hj hg'
        simp only [hjk, if_false]
        refine ⟨q1.keep hkeep (by intro e; rw [e, h.rtop] at q2; cases q2) (by intro e; rw [e, h.rtop] at q3; cases q3), by rw [roleo _ (by rw [q2]; simp)]; exact q2, by rw [roleo _ (by rw [q3]; simp)]; exact q3⟩
  · by_cases hold : L.role b = .none
    · simp only at hb'
      have hx : b = pb ∨ b = pm ∨ b = wm ∨ b = bb := by
        apply Classical.byContradiction
        intro hn
        simp only [not_or] at hn
        obtain ⟨q1, q2, q3, q4⟩ := hn
        rw [if_neg q1, if_neg q2, if_neg q3, if_neg q4] at hb'
        exact hb' hold
      have h1 := hp.lt; have h2 := hm.lt; have h3 := hr.lt
      have hs2 : (W.setCell ⟨sb, k, none⟩ (.pointer (some ⟨bb, 0, none⟩))).heap.size = W.heap.size := by simp [World.setCell]
      right
      rw [hs2]
      rcases hx with rfl | rfl | rfl | rfl <;> omega
    · exact .inl (hF b hold)

theorem reg_no {s : SS} {k : Int} (h : k < 0 ∨ 3 ≤ k) : s.regOp k = (2, s) := by unfold SS.regOp; rw [if_pos h]
theorem reg_is {s : SS} {k : Int} (h : ¬ (k < 0 ∨ 3 ≤ k)) (hi : s.is k = true) : s.regOp k = (5, s) := by unfold SS.regOp; rw [if_neg h, if_pos hi]
theorem reg_in {s : SS} {k : Int} (h : ¬ (k < 0 ∨ 3 ≤ k)) (hi : s.is k = false) : s.regOp k = (0, s.setP k QS.new) := by unfold SS.regOp; rw [if_neg h, if_neg (by simp [hi])]

set_option maxRecDepth 8000 in
set_option maxHeartbeats 1000000 in
theorem stake_Register (A : Nat → Addr) (S : List Nat) (sb : Nat) (F : Nat → Prop) (m : Nat) (s : SS) (k : Int) (w : World) (h : StakesAt sb F m s w) (hE : Errs A S w) (h2 : 2 ∈ S) (h5 : 5 ∈ S) :
    Calls Tryd.prog 7 #[.pointer (some ⟨sb, 0, none⟩), .int .i64 k] w fun e w' => e = .returned (ev A (s.regOp k).1) ∧ StakesP sb F m (s.regOp k).2 w w' := by
  have g2 : w.cell? ⟨0, 0, none⟩ = some (.iface 181 (.pointer (some (A 2)))) := hE.cell 2 h2
  have g5 : w.cell? ⟨1, 0, none⟩ = some (.iface 181 (.pointer (some (A 5)))) := hE.cell 5 h5
  clear hE
  have hok := h.ok
  have HS := Lib.hid (StakesP.refl h)
  by_cases hb : k < 0 ∨ 3 ≤ k
  · have E := Lib.hid (reg_no (s := s) hb)
    have hw : k < 0 ∨ (0 ≤ k ∧ 3 ≤ k) := by omega
    clear h hb
    rcases hw with h0 | ⟨h0, h3⟩
    all_goals
      go_enter Tryd.func7, Tryd.ntmps7
      go_wp2
      go_ret
      rw [E.out]
      exact ⟨rfl, HS.out⟩
  · obtain ⟨L, hL, hF, hlt⟩ := h
    have HI := Lib.hid (stake_Is sb L m s k w hL)
    have k0 : 0 ≤ k := by omega
    have k3 : k < 3 := by omega
    cases hi : s.is k with
    | true =>
      have E := Lib.hid (reg_is hb hi)
      rw [hi] at HI
      clear hL hF hlt hb hi hok
      go_enter Tryd.func7, Tryd.ntmps7
      go_wp2_with (go_at_call 22; refine HI.out.mono ?_; rintro e w' ⟨rfl, rfl⟩)
      go_ret
      rw [E.out]
      exact ⟨rfl, HS.out⟩
    | false =>
      have E := Lib.hid (reg_in hb hi)
      rw [hi] at HI
      obtain ⟨j, rfl⟩ := Int.eq_ofNat_of_zero_le k0
      have hj : j < 3 := by omega
      have HC := hL.cell hj
      rw [bptr_no hi] at HC
      have fz := hL.top.frozen j
      have lsb := hlt _ (hF sb (by rw [hL.rtop]; simp))
      have HR := Lib.hid (fun W pb pm wm bb hW n1 n2 n3 n4 d1 d2 d3 d4 d5 d6 hp hm hr => hL.reg hF hlt hj hi (W := W) hW (pb := pb) (pm := pm) (wm := wm) (bb := bb) n1 n2 n3 n4 d1 d2 d3 d4 d5 d6 hp hm hr)
      have hmm := @run_makeMap Tryd.prog
      clear hL hF hlt hb hi hok
      go_enter Tryd.func7, Tryd.ntmps7
      go_wp2_with (go_at_call 22; refine HI.out.mono ?_; rintro e w' ⟨rfl, rfl⟩)
      go_region_with (go_at_call 23; refine (pool_New _).mono ?_; rintro e w1 ⟨mb, rfl, hb1, hmb, hp1⟩; have hs1 := hb1.size; have ls1 : sb < w1.heap.size := (by simp at hs1; omega); have hc1 : w1.cell? ⟨sb, j, none⟩ = some (.pointer none) := (by rw [hb1.cell (p := ⟨sb, j, none⟩) (by simp; omega)]; simp [go_sem, lsb, HC]); have hf1 : w1.frozen? ⟨sb, j, none⟩ = false := (by rw [hb1.frozen (p := ⟨sb, j, none⟩) (by simp; omega)]; simp [go_sem, lsb, fz]))
      all_goals
        go_wp2
        go_ret
        rw [E.out]
        refine ⟨rfl, ?_⟩
      · have b1 : Below w.heap.size w w1 := ⟨hb1.os, hb1.tape, hb1.output, hb1.size, hb1.block⟩
        have hp1' : PoolAt (w.heap.size + 1) mb 0 QS.new w1 := hp1
        have hmb' : w.heap.size ≤ mb := hmb
        have hl := hp1'.lt
        have hne := hp1'.ne
        have hsz : w.heap.size ≤ w1.heap.size := hs1
        have := HR.out ((w1.alloc (.map #[] 0)).alloc (.cells #[.pointer (some ⟨w.heap.size + 1, 0, none⟩), .map (some w1.heap.size)] 55)) (w.heap.size + 1) mb w1.heap.size (w1.heap.size + 1)
          ((b1.alloc b1.size _).alloc (by simp; omega) _) (by omega) hmb' hsz (by omega) hne (by omega) (by omega) (by omega) (by omega) (by omega)
          ((hp1'.mono (Nat.zero_le m)).keep (F := fun _ => False) (((Keep.refl _ _).alloc _).alloc _) id id) (((World.ownsMap_made w1 _ _ _).alloc _).mono (Nat.zero_le m)) (by
            have := RowAt.new (w1.alloc (.map #[] 0)) 55 [.pointer (some ⟨w.heap.size + 1, 0, none⟩), .map (some w1.heap.size)]
            simpa using this)
        rw [World.setCell_alloc_past _ _ _ _ (by simp; omega), World.setCell_alloc_past _ _ _ _ ls1] at this
        exact this
      · have hsa : (w.alloc (.map #[] 0)).heap.size = w.heap.size + 1 := by simp
        have b0 : Below (w.alloc (.map #[] 0)).heap.size (w.alloc (.map #[] 0)) w1 := ⟨hb1.os, hb1.tape, hb1.output, hb1.size, hb1.block⟩
        have b1 : Below w.heap.size w w1 := btrans ((Below.refl _ w).alloc (Nat.le_refl _) (.map #[] 0)) b0
        have hp1' : PoolAt ((w.alloc (.map #[] 0)).heap.size + 1) mb 0 QS.new w1 := hp1
        rw [hsa] at hp1'
        have hmb' : (w.alloc (.map #[] 0)).heap.size ≤ mb := hmb
        have hl := hp1'.lt
        have hne := hp1'.ne
        have hsz : (w.alloc (.map #[] 0)).heap.size ≤ w1.heap.size := hs1
        have hm0 : w1.ownsMap Tryd.prog 3 blkElem w.heap.size 0 (.map [] : DataW Unit) := by
          obtain ⟨es, clock, e1, e2⟩ := World.ownsMap_made (H := Unit) w Tryd.prog 3 blkElem
          exact ⟨es, clock, below_heap b0 e1 (by omega), e2⟩
        have := HR.out (w1.alloc (.cells #[.pointer (some ⟨w.heap.size + 1 + 1, 0, none⟩), .map (some w.heap.size)] 55)) (w.heap.size + 1 + 1) mb w.heap.size w1.heap.size
          (b1.alloc b1.size _) (by omega) (by omega) (Nat.le_refl _) (by omega) hne (by omega) (by omega) (by omega) (by omega) (by omega)
          ((hp1'.mono (Nat.zero_le m)).keep (F := fun _ => False) ((Keep.refl _ _).alloc _) id id) ((hm0.alloc _).mono (Nat.zero_le m)) (RowAt.new w1 55 [.pointer (some ⟨w.heap.size + 1 + 1, 0, none⟩), .map (some w.heap.size)])
        rw [World.setCell_alloc_past _ _ _ _ ls1] at this
        exact this

end Go.Proofs.YtajnfkmkombajacDoor
