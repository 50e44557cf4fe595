/-
  Contracts: stake.Register; maps.Clone at a pool's map; pool.Copy.
  The document's stakes in memory: Register.
  Contract of the laws' OwnInts: a copy of the numbers.
  The document's CopyPool; a row of the call's own as the head of a block; one place of such a row is written.
  The document's stakes in memory: another pool for what waits; one more that waits.
-/
import Derived.Test.YtajnfkmkombajacGreatDoorQSA07
import Derived.Shelf.SlMaps.Clone
import Derived.Deep.RegionHeld3
import Derived.Test.YtajnfkmkombajacGreatDoorQSA16
import Derived.Deep.RegionWith
import Derived.Test.YtajnfkmkombajacGreatDoorProg
import Derived.Test.YtajnfkmkombajacGreatDoorQSA01
import Derived.Outline
import Derived.Laws.AppendOwnNone
import Derived.KernelRfl
import Derived.Test.YtajnfkmkombajacGreatDoorQSA12
import Derived.Test.YtajnfkmkombajacGreatDoorQSA14
import Derived.Deep.AppendLies
import Derived.Deep.RegionLaw
set_option linter.unusedVariables false
set_option linter.unusedSimpArgs false
set_option linter.unusedVariables false
namespace Go.Proofs.YtajnfkmkombajacGreatDoor
open Go.RowKit Go.Maps

theorem role_new {F : Nat → Prop} {L : Lay} {w : World} (hF : ∀ b, L.role b ≠ .none → F b) (hlt : ∀ b, F b → b < w.heap.size) {x : Nat} (hx : w.heap.size ≤ x) : L.role x = .none := by
  apply Classical.byContradiction
  intro h
  have := hlt _ (hF _ h); omega

theorem StakesL.reg {sb n : Nat} {F : Nat → Prop} {L : Lay} {s : SS} {w W : World} (h : StakesL sb L n s w) (hF : ∀ b, L.role b ≠ .none → F b) (hlt : ∀ b, F b → b < w.heap.size) {k : Nat} (hk : k < 3) (hi : s.is k = false)
    (hb : Below w.heap.size w W) {pb pm wm bb : Nat} (n1 : w.heap.size ≤ pb) (n2 : w.heap.size ≤ pm) (n3 : w.heap.size ≤ wm) (n4 : w.heap.size ≤ bb) (d1 : pb ≠ pm) (d2 : pb ≠ wm) (d3 : pb ≠ bb) (d4 : pm ≠ wm) (d5 : pm ≠ bb) (d6 : wm ≠ bb)
    (hp : PoolAt pb pm n QS.new W) (hm : W.ownsMap Tryz.prog 3 blkElem wm n (.map [] : DataW Unit)) (hr : RowAt bb 122 [.pointer (some ⟨pb, 0, none⟩), .map (some wm)] W) :
    StakesP sb F n (s.setP k QS.new) w (W.setCell ⟨sb, k, none⟩ (.pointer (some ⟨bb, 0, none⟩))) := by
  have rsb : w.heap.size ≠ sb := by have := hlt _ (hF sb (by rw [h.rtop]; simp)); omega
  have lsb := hlt _ (hF sb (by rw [h.rtop]; simp))
  have hkeep : Keep (fun b => b = sb) w (W.setCell ⟨sb, k, none⟩ (.pointer (some ⟨bb, 0, none⟩))) := Keep.put (Keep.of_below hb) _
  have hset : Keep (fun b => b = sb) W (W.setCell ⟨sb, k, none⟩ (.pointer (some ⟨bb, 0, none⟩))) := Keep.put (Keep.refl _ _) _
  have hsz := hb.size
  have hok := h.ok.setP (k := (k : Int)) (by omega) (by omega) QS.new_ok
  have hpool : ∀ j : Nat, (s.setP k QS.new).pool j = if (j : Int) = k then some QS.new else s.pool j := fun j => SS.pool_setP h.ok (by omega) (by omega) QS.new j
  have his : ∀ j : Nat, j ≠ k → (s.setP k QS.new).is j = s.is j := fun j hj => by unfold SS.is; rw [hpool, if_neg (by omega)]
  have hisk : (s.setP k QS.new).is k = true := by unfold SS.is; rw [hpool, if_pos rfl]; rfl
  have hnone : ∀ c, s.find k c = none := fun c => by
    cases hf : s.find k c with
    | none => rfl
    | some q => have := (h.ok.waits _ (SS.find_some hf)).2.1; simp only at this; rw [hi] at this; cases this
  have rold : ∀ x, L.role x ≠ .none → x ≠ pb ∧ x ≠ pm ∧ x ≠ wm ∧ x ≠ bb := fun x hx => by have := hlt _ (hF x hx); omega
  refine ⟨hkeep.mono (fun i hi' => by rw [hi']; exact hF sb (by rw [h.rtop]; simp)), ⟨fun j => if j = k then bb else L.bb j, fun j => if j = k then wm else L.wm j, fun j oc => if j = k ∧ oc = none then pb else L.pb j oc, fun j oc => if j = k ∧ oc = none then pm else L.pm j oc,
    fun x => if x = pb then .poo k none else if x = pm then .map k none else if x = wm then .wai k else if x = bb then .bak k else L.role x⟩, ?_, fun b hb' => ?_, grownF_lt hlt hkeep.size⟩
  · have roleo : ∀ x, L.role x ≠ .none → (if x = pb then Role.poo k none else if x = pm then .map k none else if x = wm then .wai k else if x = bb then .bak k else L.role x) = L.role x := fun x hx => by
      obtain ⟨q1, q2, q3, q4⟩ := rold x hx
      rw [if_neg q1, if_neg q2, if_neg q3, if_neg q4]
    refine ⟨hok, ?_, ?_, fun j hj hij => ?_, fun j hj hij => ?_, fun j oc q hj hg => ?_⟩
    · have ht := (h.top.below hb lsb).set k (.pointer (some ⟨bb, 0, none⟩))
      have e : ∀ j, bptr (s.setP k QS.new) ⟨fun j => if j = k then bb else L.bb j, fun j => if j = k then wm else L.wm j, fun j oc => if j = k ∧ oc = none then pb else L.pb j oc, fun j oc => if j = k ∧ oc = none then pm else L.pm j oc,
          fun x => if x = pb then .poo k none else if x = pm then .map k none else if x = wm then .wai k else if x = bb then .bak k else L.role x⟩ j = if j = k then .pointer (some ⟨bb, 0, none⟩) else bptr s L j := fun j => by
        unfold bptr
        by_cases hjk : j = k
        · subst hjk; rw [hisk]; simp
        · rw [his j hjk]; simp [hjk]
      rw [e 0, e 1, e 2]
      match k, hk with
      | 0, _ => exact ht
      | 1, _ => exact ht
      | 2, _ => exact ht
    · simp only; rw [roleo sb (by rw [h.rtop]; simp)]; exact h.rtop
    · simp only
      by_cases hjk : j = k
      · subst hjk
        simp only [if_true, and_self]
        refine ⟨hr.keep hset (by have := hr.lt; omega), ?_⟩
        rw [if_neg (fun e => d3 e.symm), if_neg (fun e => d5 e.symm), if_neg (fun e => d6 e.symm)]
      · rw [his j hjk] at hij
        obtain ⟨q1, q2⟩ := h.bak j hj hij
        simp only [hjk, if_false, false_and]
        exact ⟨q1.keep hkeep (by intro e; rw [e, h.rtop] at q2; cases q2), by rw [roleo _ (by rw [q2]; simp)]; exact q2⟩
    · simp only
      by_cases hjk : j = k
      · subst hjk
        simp only [if_true]
        refine ⟨by rw [if_neg (fun e => d2 e.symm), if_neg (fun e => d4 e.symm)], .map [], hm.setCell (a := ⟨sb, j, none⟩) (by simp only; omega) _, fun c => ?_⟩
        have e : (s.setP j QS.new).find j c = none := hnone c
        rw [e]
        show (DataW.map [] : DataW Unit).atKey _ _ = _
        rw [atKey_of_not_has (by rfl)]; rfl
      · rw [his j hjk] at hij
        obtain ⟨q1, D, q2, q3⟩ := h.wai j hj hij
        simp only [hjk, if_false]
        obtain ⟨es, clock, e1, e2⟩ := q2
        refine ⟨by rw [roleo _ (by rw [q1]; simp)]; exact q1, D, ⟨es, clock, hkeep.heap e1 (by intro e; rw [e, h.rtop] at q1; cases q1), e2⟩, fun c => ?_⟩
        rw [q3 c]
        unfold waitD
        have e : (s.setP k QS.new).find j c = s.find j c := rfl
        rw [e]; simp
    · simp only
      by_cases hjk : j = k ∧ oc = none
      · obtain ⟨rfl, rfl⟩ := hjk
        have hg' : (s.setP j QS.new).P.getD j none = some q := hg
        rw [← SS.pool_nat, hpool, if_pos rfl] at hg'
        cases hg'
        simp only [and_self, if_true]
        refine ⟨hp.keep hset (by omega) (by omega), by simp, by rw [if_neg (fun e => d1 e.symm)]⟩
      · have hg' : s.get j oc = some q := by
          cases oc with
          | some c => exact hg
          | none =>
            have hg2 : (s.setP k QS.new).P.getD j none = some q := hg
            rw [← SS.pool_nat, hpool, if_neg (fun e => hjk ⟨by omega, rfl⟩), SS.pool_nat] at hg2
            exact hg2
        obtain ⟨q1, q2, q3⟩ := h.poo j oc q hj hg'
        simp only [hjk, if_false]
        refine ⟨q1.keep hkeep (by intro e; rw [e, h.rtop] at q2; cases q2) (by intro e; rw [e, h.rtop] at q3; cases q3), by rw [roleo _ (by rw [q2]; simp)]; exact q2, by rw [roleo _ (by rw [q3]; simp)]; exact q3⟩
  · by_cases hold : L.role b = .none
    · simp only at hb'
      have hx : b = pb ∨ b = pm ∨ b = wm ∨ b = bb := by
        apply Classical.byContradiction
        intro hn
        simp only [not_or] at hn
        obtain ⟨q1, q2, q3, q4⟩ := hn
        rw [if_neg q1, if_neg q2, if_neg q3, if_neg q4] at hb'
        exact hb' hold
      have h1 := hp.lt; have h2 := hm.lt; have h3 := hr.lt
      have hs2 : (W.setCell ⟨sb, k, none⟩ (.pointer (some ⟨bb, 0, none⟩))).heap.size = W.heap.size := by simp [World.setCell]
      right
      rw [hs2]
      rcases hx with rfl | rfl | rfl | rfl <;> omega
    · exact .inl (hF b hold)

theorem reg_no {s : SS} {k : Int} (h : k < 0 ∨ 3 ≤ k) : s.regOp k = (2, s) := by unfold SS.regOp; rw [if_pos h]
theorem reg_is {s : SS} {k : Int} (h : ¬ (k < 0 ∨ 3 ≤ k)) (hi : s.is k = true) : s.regOp k = (5, s) := by unfold SS.regOp; rw [if_neg h, if_pos hi]
theorem reg_in {s : SS} {k : Int} (h : ¬ (k < 0 ∨ 3 ≤ k)) (hi : s.is k = false) : s.regOp k = (0, s.setP k QS.new) := by unfold SS.regOp; rw [if_neg h, if_neg (by simp [hi])]

set_option maxRecDepth 8000 in
set_option maxHeartbeats 1000000 in
theorem stake_Register (A : Nat → Addr) (S : List Nat) (sb : Nat) (F : Nat → Prop) (m : Nat) (s : SS) (k : Int) (w : World) (h : StakesAt sb F m s w) (hE : Errs A S w) (h2 : 2 ∈ S) (h5 : 5 ∈ S) :
    Calls Tryz.prog 64 #[.pointer (some ⟨sb, 0, none⟩), .int .i64 k] w fun e w' => e = .returned (ev A (s.regOp k).1) ∧ StakesP sb F m (s.regOp k).2 w w' := by
  have g2 : w.cell? ⟨0, 0, none⟩ = some (.iface 386 (.pointer (some (A 2)))) := hE.cell 2 h2
  have g5 : w.cell? ⟨2, 0, none⟩ = some (.iface 386 (.pointer (some (A 5)))) := hE.cell 5 h5
  clear hE
  have hok := h.ok
  have HS := Lib.hid (StakesP.refl h)
  by_cases hb : k < 0 ∨ 3 ≤ k
  · have E := Lib.hid (reg_no (s := s) hb)
    have hw : k < 0 ∨ (0 ≤ k ∧ 3 ≤ k) := by omega
    clear h hb
    rcases hw with h0 | ⟨h0, h3⟩
    all_goals
      go_enter Tryz.func64, Tryz.ntmps64
      go_wp2
      go_ret
      rw [E.out]
      exact ⟨rfl, HS.out⟩
  · obtain ⟨L, hL, hF, hlt⟩ := h
    have HI := Lib.hid (stake_Is sb L m s k w hL)
    have k0 : 0 ≤ k := by omega
    have k3 : k < 3 := by omega
    cases hi : s.is k with
    | true =>
      have E := Lib.hid (reg_is hb hi)
      rw [hi] at HI
      clear hL hF hlt hb hi hok
      go_enter Tryz.func64, Tryz.ntmps64
      go_wp2_with (go_at_call 19; refine HI.out.mono ?_; rintro e w' ⟨rfl, rfl⟩)
      go_ret
      rw [E.out]
      exact ⟨rfl, HS.out⟩
    | false =>
      have E := Lib.hid (reg_in hb hi)
      rw [hi] at HI
      obtain ⟨j, rfl⟩ := Int.eq_ofNat_of_zero_le k0
      have hj : j < 3 := by omega
      have HC := hL.cell hj
      rw [bptr_no hi] at HC
      have fz := hL.top.frozen j
      have lsb := hlt _ (hF sb (by rw [hL.rtop]; simp))
      have HR := Lib.hid (fun W pb pm wm bb hW n1 n2 n3 n4 d1 d2 d3 d4 d5 d6 hp hm hr => hL.reg hF hlt hj hi (W := W) hW (pb := pb) (pm := pm) (wm := wm) (bb := bb) n1 n2 n3 n4 d1 d2 d3 d4 d5 d6 hp hm hr)
      have hmm := @run_makeMap Tryz.prog
      clear hL hF hlt hb hi hok
      go_enter Tryz.func64, Tryz.ntmps64
      go_wp2_with (go_at_call 19; refine HI.out.mono ?_; rintro e w' ⟨rfl, rfl⟩)
      go_region_with (go_at_call 126; refine (pool_New _).mono ?_; rintro e w1 ⟨mb, rfl, hb1, hmb, hp1⟩; have hs1 := hb1.size; have ls1 : sb < w1.heap.size := (by simp at hs1; omega); have hc1 : w1.cell? ⟨sb, j, none⟩ = some (.pointer none) := (by rw [hb1.cell (p := ⟨sb, j, none⟩) (by simp; omega)]; simp [go_sem, lsb, HC]); have hf1 : w1.frozen? ⟨sb, j, none⟩ = false := (by rw [hb1.frozen (p := ⟨sb, j, none⟩) (by simp; omega)]; simp [go_sem, lsb, fz]))
      all_goals
        go_wp2
        go_ret
        rw [E.out]
        refine ⟨rfl, ?_⟩
      · have b1 : Below w.heap.size w w1 := ⟨hb1.os, hb1.tape, hb1.output, hb1.size, hb1.block⟩
        have hp1' : PoolAt (w.heap.size + 1) mb 0 QS.new w1 := hp1
        have hmb' : w.heap.size ≤ mb := hmb
        have hl := hp1'.lt
        have hne := hp1'.ne
        have hsz : w.heap.size ≤ w1.heap.size := hs1
        have := HR.out ((w1.alloc (.map #[] 0)).alloc (.cells #[.pointer (some ⟨w.heap.size + 1, 0, none⟩), .map (some w1.heap.size)] 122)) (w.heap.size + 1) mb w1.heap.size (w1.heap.size + 1)
          ((b1.alloc b1.size _).alloc (by simp; omega) _) (by omega) hmb' hsz (by omega) hne (by omega) (by omega) (by omega) (by omega) (by omega)
          ((hp1'.mono (Nat.zero_le m)).keep (F := fun _ => False) (((Keep.refl _ _).alloc _).alloc _) id id) (((World.ownsMap_made w1 _ _ _).alloc _).mono (Nat.zero_le m)) (by
            have := RowAt.new (w1.alloc (.map #[] 0)) 122 [.pointer (some ⟨w.heap.size + 1, 0, none⟩), .map (some w1.heap.size)]
            simpa using this)
        rw [World.setCell_alloc_past _ _ _ _ (by simp; omega), World.setCell_alloc_past _ _ _ _ ls1] at this
        exact this
      · have hsa : (w.alloc (.map #[] 0)).heap.size = w.heap.size + 1 := by simp
        have b0 : Below (w.alloc (.map #[] 0)).heap.size (w.alloc (.map #[] 0)) w1 := ⟨hb1.os, hb1.tape, hb1.output, hb1.size, hb1.block⟩
        have b1 : Below w.heap.size w w1 := btrans ((Below.refl _ w).alloc (Nat.le_refl _) (.map #[] 0)) b0
        have hp1' : PoolAt ((w.alloc (.map #[] 0)).heap.size + 1) mb 0 QS.new w1 := hp1
        rw [hsa] at hp1'
        have hmb' : (w.alloc (.map #[] 0)).heap.size ≤ mb := hmb
        have hl := hp1'.lt
        have hne := hp1'.ne
        have hsz : (w.alloc (.map #[] 0)).heap.size ≤ w1.heap.size := hs1
        have hm0 : w1.ownsMap Tryz.prog 3 blkElem w.heap.size 0 (.map [] : DataW Unit) := by
          obtain ⟨es, clock, e1, e2⟩ := World.ownsMap_made (H := Unit) w Tryz.prog 3 blkElem
          exact ⟨es, clock, below_heap b0 e1 (by omega), e2⟩
        have := HR.out (w1.alloc (.cells #[.pointer (some ⟨w.heap.size + 1 + 1, 0, none⟩), .map (some w.heap.size)] 122)) (w.heap.size + 1 + 1) mb w.heap.size w1.heap.size
          (b1.alloc b1.size _) (by omega) (by omega) (Nat.le_refl _) (by omega) hne (by omega) (by omega) (by omega) (by omega) (by omega)
          ((hp1'.mono (Nat.zero_le m)).keep (F := fun _ => False) ((Keep.refl _ _).alloc _) id id) ((hm0.alloc _).mono (Nat.zero_le m)) (RowAt.new w1 122 [.pointer (some ⟨w.heap.size + 1 + 1, 0, none⟩), .map (some w.heap.size)])
        rw [World.setCell_alloc_past _ _ _ _ ls1] at this
        exact this

end Go.Proofs.YtajnfkmkombajacGreatDoor
namespace Go.Proofs.YtajnfkmkombajacGreatDoor
open Go.RowKit Go.Maps

set_option maxRecDepth 8000 in
theorem refs_Register (sb : Nat) (F : Nat → Prop) (s : SS) (w : World) (k : Int) (h : RStAt sb F s w) :
    Calls Tryz.prog 68 #[.pointer (some ⟨sb, 0, none⟩), .int .i64 k] w fun e w' => e = .returned (.int .i64 (s.regOp k).1) ∧ RStP sb F (s.regOp k).2 w w' := by
  have HA := Lib.hid (fun w' => RStP.of_below (w' := w') h)
  obtain ⟨L, wv, hL, hF, hlt⟩ := h
  by_cases hb : k < 0 ∨ 3 ≤ k
  · have E := Lib.hid (reg_no (s := s) hb)
    have hw : k < 0 ∨ (0 ≤ k ∧ 3 ≤ k) := by omega
    clear hL hF hlt hb
    rcases hw with h0 | ⟨h0, h3⟩
    all_goals
      go_enter Tryz.func68, Tryz.ntmps68
      go_wp2
      go_ret
      rw [E.out]
      exact ⟨rfl, HA.out _ (Below.refl _ _)⟩
  · have k0 : 0 ≤ k := by omega
    obtain ⟨j, rfl⟩ := Int.eq_ofNat_of_zero_le k0
    have hj : j < 3 := by omega
    have hp := hL.ptr hj
    have hi : s.is (j : Int) = (s.rget j).isSome := by unfold SS.is; rw [SS.rget_pool s hj]
    have t0 := hL.top.cell 0
    simp only [List.getElem?_cons_zero] at t0
    have x1 : decide ((j : Int) < 3) = true := by simp; omega
    have x2 : decide ((3 : Int) ≤ (j : Int)) = false := by simp; omega
    have x3 : decide (3 ≤ j) = false := by simp; omega
    unfold rptr at hp
    cases hq : s.rget j with
    | some q =>
      rw [hq] at hp hi
      have E := Lib.hid (reg_is hb hi)
      simp only [Option.isSome_some, if_true] at hp
      clear hq hL hF hlt hb hi
      go_enter Tryz.func68, Tryz.ntmps68
      go_wp2
      go_ret
      rw [E.out]
      exact ⟨rfl, HA.out _ (Below.refl _ _)⟩
    | none =>
      rw [hq] at hp hi
      have E := Lib.hid (reg_in hb hi)
      simp only [Option.isSome_none, Bool.false_eq_true, if_false] at hp
      have HLD := Lib.hid (fun w1 b c hw hp hb hc => hL.laid hF hlt (w1 := w1) (b := b) (c := c) (m := 6) (q := QS.new) hj hw hp hb hc)
      have ltop := hL.top.lt
      have lrow := hL.row.lt
      have HT := Lib.hid (fun w1 (hw : Below w.heap.size w w1) => And.intro ((hL.below hw).top.cell 0) (And.intro ((hL.below hw).ptr hj) ((hL.below hw).row.frozen j)))
      clear hq hL hF hlt hb hi
      go_enter Tryz.func68, Tryz.ntmps68
      go_wp2_with fail
      go_region_with (go_at_call 132; refine (refq_New _).mono ?_; rintro e w1 ⟨b, c, rfl, hb1, hb2, hb3, hp1⟩; have hw1 : Below w.heap.size w w1 := btrans ((Below.refl _ _).drewN 1) hb1; have c0' := (HT.out _ hw1).1; have c1' := (HT.out _ hw1).2.1; have f1' := (HT.out _ hw1).2.2; simp only [List.getElem?_cons_zero] at c0')
      all_goals
        go_wp2
        go_ret
        rw [E.out]
        exact ⟨rfl, HLD.out _ _ _ hw1 hp1 hb2 hb3⟩
end Go.Proofs.YtajnfkmkombajacGreatDoor
namespace Go.Proofs.YtajnfkmkombajacGreatDoor
open Go.RowKit

theorem Tryz.infoInt : (Tryz.prog.info? 3).map (fun i => (i.zero, i.size, i.bytes)) = some (some (.int .i64 0), 1, 8) := by kernel_rfl

/-- what OwnInts leaves: a slice of the call's own that reads as the numbers that were handed in -/
def OwnedInts (W : World) (len : Nat) (zs : List Int) (e : Ending) (w' : World) : Prop := ∃ ao cap, e = .returned (.slice ao len cap) ∧ w'.ownsRow W.heap.size 3 1 (.slice ao len cap) len (zs.map (Value.int .i64)) ∧ Below W.heap.size W w'

theorem law_OwnInts (ao : Option Addr) (len cap : Nat) (zs : List Int) (w : World) (R : RdI .i64 w ao len cap zs) (hb : len * 8 ≤ 140737488355328) :
    Calls Tryz.prog 52 #[.slice ao len cap] w (OwnedInts w len zs) := by
  obtain ⟨i0, hi, hz0, hz1, hz2⟩ := info_parts Tryz.infoInt
  have hlen := R.size
  have hmx : len ≤ maxLen := Nat.le_trans R.lc R.cm
  have hone : ∀ u ∈ zs.map (Value.int IntKind.i64), u.oneCell' = true := by intro u hu; obtain ⟨x, _, rfl⟩ := List.mem_map.1 hu; rfl
  rcases R.split with ⟨rfl, rfl⟩ | ⟨h0, b, off, rfl, hbl, hcell⟩
  · cases ao with
    | none =>
      obtain rfl : cap = 0 := R.nul rfl
      clear R hone
      go_enter Tryz.func52, Tryz.ntmps52
      go_wp2_with (at_builtin; refine wpList_append_own_none rfl _ _ 38 rfl w.heap.size 3 i0 1 Tryz.underlying38 hi hz1 _ 0 [] rfl (World.ownsRow_nil _ _ _ _) 0 rfl ?_)
      go_ret
      refine ⟨none, 0, rfl, World.ownsRow_nil _ _ _ _, Below.refl _ _⟩
    | some x =>
      clear R hone
      go_enter Tryz.func52, Tryz.ntmps52
      go_wp2_with (at_builtin; refine wpList_append_own _ rfl _ _ 38 rfl w.heap.size 3 i0 (.int .i64 0) 1 8 Tryz.underlying38 hi hz0 hz1 hz2 rfl (by decide) _ 0 [] rfl (World.ownsRow_nil _ _ _ _) x 0 cap [] rfl rfl (by intro j u h; cases h) (by intro u h; cases h) (by simp) (by simp) (Nat.le_refl _) ?_)
      intro v' w1 hown hg _
      obtain ⟨ao', cap', hv⟩ := own_shape hown
      rw [hv] at hown
      rw [hv]
      clear hv
      go_wp2
      go_ret
      refine ⟨ao', cap', rfl, hown, (Below.refl _ _).grown hg (Nat.le_refl _) (by intro k h; cases h)⟩
  · have Hl := Lib.hid hlen; clear hlen
    have hcs : ∀ j u, (zs.map (Value.int IntKind.i64))[j]? = some u → w.cell? ((⟨b, off, none⟩ : Addr).add j) = some u := by
      intro j u hj
      rw [List.getElem?_map] at hj
      obtain ⟨x, hx, rfl⟩ := Option.map_eq_some_iff.1 hj
      have hjl : j < zs.length := (List.getElem?_eq_some_iff.1 hx).1
      have := hcell j (by rw [← Hl.out]; exact hjl)
      rw [List.getD_eq_getElem?_getD, hx] at this
      cases j <;> simpa [Addr.add] using this
    have Hc := Lib.hid hcell; clear hcell
    have Hcs := Lib.hid hcs; clear hcs
    have Ho := Lib.hid hone; clear hone
    go_enter Tryz.func52, Tryz.ntmps52
    go_wp2_with (at_builtin; refine wpList_append_own _ rfl _ _ 38 rfl w.heap.size 3 i0 (.int .i64 0) 1 8 Tryz.underlying38 hi hz0 hz1 hz2 rfl (by decide) _ 0 [] rfl (World.ownsRow_nil _ _ _ _) ⟨b, off, none⟩ len cap (zs.map (Value.int .i64)) rfl (by rw [List.length_map, Hl.out, Nat.mul_one]) Hcs.out Ho.out (by rw [Nat.zero_add]; exact hmx) (by rw [Nat.zero_add]; exact hb) (Nat.le_refl _) ?_)
    intro v' w1 hown hg _
    obtain ⟨ao', cap', hv⟩ := own_shape hown
    rw [hv] at hown
    rw [hv]
    clear hv
    go_wp2
    go_ret
    refine ⟨ao', cap', rfl, hown, (Below.refl _ _).grown hg (Nat.le_refl _) (by intro k h; cases h)⟩
end Go.Proofs.YtajnfkmkombajacGreatDoor
namespace Go.Proofs.YtajnfkmkombajacGreatDoor
open Go.RowKit Go.Maps

theorem RowPre.of_own {w : World} {base e n : Nat} {v : Value} {xs : List Value} (h : w.ownsRow base e 1 v n xs) (hn : 0 < n) : ∃ g cap, v = .slice (some ⟨g, 0, none⟩) n cap ∧ base ≤ g ∧ RowPre g e xs w ∧ n ≤ cap ∧ cap ≤ maxLen := by
  rcases h.2 with ⟨hv, hn0⟩ | ⟨g, cap, cur, hv, hb, hg, hnc, hcm, hcs, ht⟩
  · omega
  · refine ⟨g, cap, hv, hb, ⟨cur.toList.drop n, ?_⟩, hnc, hcm⟩
    unfold RowAt
    rw [hg, ← ht, Nat.mul_one, List.take_append_drop]
theorem ownsRow_set {w : World} {base e size n g : Nat} {v : Value} {xs : List Value} (h : w.ownsRow base e size v n xs) (hv : v.ownBlock = some g) {i : Nat} (hi : i < xs.length) (u : Value) : (w.setCell ⟨g, i, none⟩ u).ownsRow base e size v n (xs.set i u) := by
  refine ⟨by rw [List.length_set]; exact h.1, ?_⟩
  rcases h.2 with ⟨hv', hn0⟩ | ⟨g', cap, cur, hv', hb, hg, hnc, hcm, hcs, ht⟩
  · rw [hv'] at hv; cases hv
  · have : g' = g := by rw [hv'] at hv; simpa [Value.ownBlock] using hv
    subst this
    have hlt := lt_of_block hg
    refine .inr ⟨g', cap, cur.setIfInBounds i u, hv', hb, ?_, hnc, hcm, by simpa using hcs, ?_⟩
    · have h' : w.heap[g'] = .cells cur e (0, 0) := by simpa [Array.getElem?_eq_getElem hlt] using hg
      show (w.heap.modify g' _)[g']? = _
      rw [Array.getElem?_eq_getElem (by simpa using hlt), Array.getElem_modify_self, h']
      simp
    · rw [Array.toList_setIfInBounds, List.take_set, ht]
theorem flatMap_set {α : Type} {enc enc' : α → List Value} {C : Nat} (hC : ∀ x, (enc x).length = C) : ∀ (l : List α) (i k : Nat) (u : Value) (x : α), k < C → l[i]? = some x → enc' x = (enc x).set k u → (∀ (j : Nat) (y : α), j ≠ i → l[j]? = some y → enc' y = enc y) → (l.flatMap enc).set (i * C + k) u = l.flatMap enc'
  | [], i, k, u, x, _, hx, _, _ => by simp at hx
  | y :: l, 0, k, u, x, hk, hx, h1, h2 => by
    simp at hx; subst hx
    rw [List.flatMap_cons, List.flatMap_cons, Nat.zero_mul, Nat.zero_add, List.set_append_left _ _ (by rw [hC]; exact hk), h1]
    congr 1
    have : ∀ (m : List α), (∀ (j : Nat) (z : α), m[j]? = some z → enc' z = enc z) → m.flatMap enc = m.flatMap enc' := by
      intro m
      induction m with
      | nil => intro _; rfl
      | cons z m ih => intro hm; rw [List.flatMap_cons, List.flatMap_cons, hm 0 z rfl, ih (fun j z' hz => hm (j + 1) z' (by simpa using hz))]
    exact this l (fun j z hz => h2 (j + 1) z (by omega) (by simpa using hz))
  | y :: l, i + 1, k, u, x, hk, hx, h1, h2 => by
    rw [List.flatMap_cons, List.flatMap_cons, List.set_append_right _ _ (by rw [hC, Nat.succ_mul]; omega), hC, show (i + 1) * C + k - C = i * C + k by rw [Nat.succ_mul]; omega, h2 0 y (by omega) rfl,
      flatMap_set hC l i k u x hk (by simpa using hx) h1 (fun j z hj hz => h2 (j + 1) z (by omega) (by simpa using hz))]

set_option maxRecDepth 8000 in
theorem refq_Copy (b sb cap : Nat) (q : QS) (w : World) (h : RPoolAt b sb cap q w) :
    Calls Tryz.prog 134 #[.pointer (some ⟨b, 0, none⟩)] w fun e w' => ∃ sb2 cap2, e = .returned (.pointer (some ⟨w.heap.size, 0, none⟩)) ∧ Below w.heap.size w w' ∧ w.heap.size ≤ sb2 ∧ RPoolAt w.heap.size sb2 cap2 q w' := by
  obtain ⟨i0, hi, hz0, hz1, hz2⟩ := info_parts Tryz.infoInt
  have c0 := h.c0
  have l6 : (q.sh.map (Value.int IntKind.i64)).length = 6 * 1 := by rw [List.length_map, h.ok.six]
  have hone : ∀ u ∈ q.sh.map (Value.int IntKind.i64), u.oneCell' = true := by intro u hu; obtain ⟨x, _, rfl⟩ := List.mem_map.1 hu; rfl
  have hlt := h.lt
  have hc6 := h.c6
  obtain ⟨wb, hwb⟩ : ∃ wb, w.alloc (.cells #[.int .i64 q.total, .slice none 0 0] 124) = wb := ⟨_, rfl⟩
  have B0 : Below w.heap.size w wb := by rw [← hwb]; exact (Below.refl _ _).alloc (Nat.le_refl _) _
  have R0 : RowAt w.heap.size 124 [.int .i64 q.total, .slice none 0 0] wb := by rw [← hwb]; exact RowAt.new _ _ _
  have hA : RPoolAt b sb cap q wb := h.keep (F := fun _ => False) (Keep.of_below B0) id id
  have c1 := hA.c1
  have hsz : wb.heap.size = w.heap.size + 1 := by rw [← hwb]; simp
  have HX := Lib.hid (fun (i j : Nat) (u : Value) (hj : (q.sh.map (Value.int IntKind.i64))[j]? = some u) => show (wb.drewN i).cell? ((⟨sb, 0, none⟩ : Addr).add j) = some u by
    have hjl : j < (q.sh.map (Value.int IntKind.i64)).length := (List.getElem?_eq_some_iff.1 hj).1
    have := hA.has.cell hjl
    rw [hj] at this
    rw [World.cell?_drewN, Addr.add_lit, Nat.zero_add]; exact this)
  have HFIN := Lib.hid (fun (i g cp : Nat) (w3 : World) (hg : (wb.drewN i).grownBy w3 none) (ho : w3.ownsRow (w.heap.size + 1) 3 1 (.slice (some ⟨g, 0, none⟩) (0 + 6) cp) (0 + 6) ([] ++ q.sh.map (Value.int .i64))) => show
      (w3.cell? ⟨w.heap.size, 0, none⟩ = some (.int .i64 q.total) ∧ w3.cell? ⟨w.heap.size, 1, none⟩ = some (.slice none 0 0) ∧ w3.frozen? ⟨w.heap.size, 1, none⟩ = false) ∧ Below w.heap.size w (w3.setCell ⟨w.heap.size, 1, none⟩ (.slice (some ⟨g, 0, none⟩) (0 + 6) cp)) ∧ w.heap.size ≤ g ∧ RPoolAt w.heap.size g cp q (w3.setCell ⟨w.heap.size, 1, none⟩ (.slice (some ⟨g, 0, none⟩) (0 + 6) cp)) by
    have B3 : Below w.heap.size w w3 := (B0.drewN i).grown hg (by simp [hsz]) (fun k hk => by cases hk)
    have R3 : RowAt w.heap.size 124 [.int .i64 q.total, .slice none 0 0] w3 := (hg.block _ (by simpa using (R0.lt)) (by simp)).trans R0
    obtain ⟨g', cap', hv, hb, hrow, hcp, hcm⟩ := RowPre.of_own ho (by decide)
    cases hv
    refine ⟨⟨R3.cell 0, R3.cell 1, R3.frozen 1⟩, B3.setCell (p := ⟨w.heap.size, 1, none⟩) (Nat.le_refl _) _, by omega, h.ok, R3.set 1 _, ?_, by omega, by omega, hcm⟩
    rw [List.nil_append] at hrow
    exact hrow.set_other (p := ⟨w.heap.size, 1, none⟩) (by simp only; omega) _)
  have w0 : wb.cell? ⟨w.heap.size, 1, none⟩ = some (.slice none 0 0) := R0.cell 1
  have hp0 := wb
  clear h hA hlt
  go_enter Tryz.func134, Tryz.ntmps134
  go_wp2_with fail
  go_region_law ((refine step_append_lies _ rfl (.tmp 14) (.tmp 18) 38 rfl (w.heap.size + 1) 3 i0 (.int .i64 0) 1 8 Tryz.underlying38 hi hz0 hz1 hz2 rfl (by decide) (.slice none 0 0) 0 [] rfl (World.ownsRow_nil _ _ _ _) ⟨sb, 0, none⟩ 6 cap (q.sh.map (Value.int .i64)) rfl l6 (HX.out _) hone (by decide) (by unfold maxLen; omega) (by omega) (by simp [hsz]) _ rfl ?_; intro g cp w3 ho3 hg3 hor hlt3; obtain ⟨⟨m0, m1, m2⟩, mB, mg, mP⟩ := HFIN.out _ g cp w3 hg3 ho3))
  all_goals
    go_wp2_with fail
    go_ret
    exact ⟨g, cp, rfl, mB, mg, mP⟩
end Go.Proofs.YtajnfkmkombajacGreatDoor
namespace Go.Proofs.YtajnfkmkombajacGreatDoor
open Go.RowKit Go.Maps

theorem SS.setW_at {s : SS} (h : s.Ok) {k c : Int} {i : Nat} {x : WP} (hx : s.W[i]? = some x) (hf : s.find k c = some x.q) (hb : x.b = k) (hc : x.c = c) (q : QS) : (s.setW k c q) = ⟨s.P, s.W.set i ⟨x.b, x.c, q⟩⟩ := by
  unfold SS.setW
  rw [if_pos (by rw [hf]; rfl)]
  congr 1
  apply List.ext_getElem?
  intro j
  rw [List.getElem?_map, List.getElem?_set]
  have hi := (List.getElem?_eq_some_iff.1 hx).1
  by_cases e : i = j
  · subst e
    rw [if_pos rfl, if_pos hi, hx]
    simp only [Option.map_some]
    unfold WP.put; rw [if_pos (WP.at_iff.2 ⟨hb, hc⟩)]
  · rw [if_neg e]
    cases hj : s.W[j]? with
    | none => rfl
    | some y =>
      simp only [Option.map_some]
      unfold WP.put
      rw [if_neg]
      intro ha
      obtain ⟨a1, a2⟩ := WP.at_iff.1 ha
      have hp := h.apart
      rw [List.pairwise_iff_getElem] at hp
      have hjl := (List.getElem?_eq_some_iff.1 hj).1
      have ei : s.W[i] = x := by rw [List.getElem?_eq_getElem hi] at hx; exact Option.some.inj hx
      have ej : s.W[j] = y := by rw [List.getElem?_eq_getElem hjl] at hj; exact Option.some.inj hj
      rcases Nat.lt_or_ge i j with hlt | hge
      · have := hp i j hi hjl hlt; rw [ei, ej] at this; exact this ⟨by rw [hb, a1], by rw [hc, a2]⟩
      · have := hp j i hjl hi (by omega); rw [ei, ej] at this; exact this ⟨by rw [hb, a1], by rw [hc, a2]⟩
theorem SS.setW_new {s : SS} {k c : Int} (hf : s.find k c = none) (q : QS) : (s.setW k c q) = ⟨s.P, s.W ++ [⟨k, c, q⟩]⟩ := by
  unfold SS.setW; rw [if_neg (by rw [hf]; simp)]
theorem SS.rget_set {s : SS} {i : Nat} (hi : i < s.W.length) (y : WP) (j : Nat) : (SS.mk s.P (s.W.set i y)).rget j = if j = i + 3 then some y.q else s.rget j := by
  unfold SS.rget
  by_cases h3 : j < 3
  · rw [if_pos h3, if_pos h3, if_neg (by omega)]
  · rw [if_neg h3, if_neg h3]
    simp only [List.getElem?_set]
    by_cases e : j = i + 3
    · rw [if_pos e, if_pos (by omega), if_pos hi]; rfl
    · rw [if_neg e, if_neg (by omega)]
theorem SS.rget_snoc {s : SS} (y : WP) (j : Nat) : (SS.mk s.P (s.W ++ [y])).rget j = if j = s.W.length + 3 then some y.q else s.rget j := by
  unfold SS.rget
  by_cases h3 : j < 3
  · rw [if_pos h3, if_pos h3, if_neg (by omega)]
  · rw [if_neg h3, if_neg h3]
    simp only
    by_cases e : j = s.W.length + 3
    · rw [if_pos e, e, Nat.add_sub_cancel, List.getElem?_append_right (Nat.le_refl _), Nat.sub_self]; rfl
    · rw [if_neg e]
      by_cases hl : j - 3 < s.W.length
      · rw [List.getElem?_append_left hl]
      · rw [List.getElem?_eq_none (by simp; omega), List.getElem?_eq_none (by omega)]
theorem rptr_low {s s' : SS} {L L' : RLay} {j : Nat} (hr : s'.rget j = s.rget j) (hp : L'.pb j = L.pb j) : rptr s' L' j = rptr s L j := by
  unfold rptr; rw [hr, hp]

theorem set_same {l : List Value} {i : Nat} {u : Value} (h : l[i]? = some u) : l.set i u = l := by
  apply List.ext_getElem?
  intro j
  rw [List.getElem?_set]
  by_cases e : i = j
  · subst e
    rw [if_pos rfl, if_pos (List.getElem?_eq_some_iff.1 h).1, h]
  · rw [if_neg e]
/-- another pool q' is laid where entry i waits -/
theorem RStL.waitPut {sb : Nat} {L : RLay} {wv : Value} {s : SS} {w : World} (h : RStL sb L wv s w) {i g b c m : Nat} {x : WP} {q' : QS} (hx : s.W[i]? = some x) (hp : RPoolAt b c m q' w) (hb : L.role b = .none) (hc : L.role c = .none) (hg : wv.ownBlock = some g) (hok : SS.Ok ⟨s.P, s.W.set i ⟨x.b, x.c, q'⟩⟩) :
    RStL sb (L.put (i + 3) b c m) wv ⟨s.P, s.W.set i ⟨x.b, x.c, q'⟩⟩ (((w.setCell ⟨g, i * 3, none⟩ (.int .i64 x.b)).setCell ⟨g, i * 3 + 1, none⟩ (.int .i64 x.c)).setCell ⟨g, i * 3 + 2, none⟩ (.pointer (some ⟨b, 0, none⟩))) := by
  have hil := (List.getElem?_eq_some_iff.1 hx).1
  have rg := h.rwai g hg
  have K : Keep (· = g) w (((w.setCell ⟨g, i * 3, none⟩ (.int .i64 x.b)).setCell ⟨g, i * 3 + 1, none⟩ (.int .i64 x.c)).setCell ⟨g, i * 3 + 2, none⟩ (.pointer (some ⟨b, 0, none⟩))) := (((Keep.refl _ _).put _).put _).put _
  have hne : ∀ y, L.role y ≠ .wrow → ¬ y = g := fun y hy e => hy (by rw [e]; exact rg)
  have hr := SS.rget_set (s := s) hil ⟨x.b, x.c, q'⟩
  have pbo : ∀ j, j ≠ i + 3 → (L.put (i + 3) b c m).pb j = L.pb j := fun j hj => if_neg hj
  refine ⟨hok, h.top.keep K (hne _ (by rw [h.rtop]; simp)), ?_, ?_, ?_, ?_, ?_, ?_⟩
  · rw [RLay.put_role hb hc (by rw [h.rtop]; simp) (by rw [h.rtop]; simp) (by rw [h.rtop]; simp)]; exact h.rtop
  · rw [rptr_low (s := s) (L := L) (by rw [hr, if_neg (by omega)]) (pbo 0 (by omega)), rptr_low (s := s) (L := L) (by rw [hr, if_neg (by omega)]) (pbo 1 (by omega)), rptr_low (s := s) (L := L) (by rw [hr, if_neg (by omega)]) (pbo 2 (by omega))]
    exact h.row.keep K (hne _ (by rw [h.rrow]; simp))
  · show (L.put (i + 3) b c m).role L.g = .row
    rw [RLay.put_role hb hc (by rw [h.rrow]; simp) (by rw [h.rrow]; simp) (by rw [h.rrow]; simp)]; exact h.rrow
  · have hlen : (waitsE L s.W).length = s.W.length * 3 := by have := h.wai.1; exact this
    have o1 := ownsRow_set h.wai hg (i := i * 3) (by rw [hlen]; omega) (.int .i64 x.b)
    have o2 := ownsRow_set o1 hg (i := i * 3 + 1) (by rw [List.length_set, hlen]; omega) (.int .i64 x.c)
    have o3 := ownsRow_set o2 hg (i := i * 3 + 2) (by rw [List.length_set, List.length_set, hlen]; omega) (.pointer (some ⟨b, 0, none⟩))
    have hz := zip_get hx
    have g0 := flatMap_get (enc := waitE L) (C := 3) (fun _ => rfl) s.W.zipIdx i (x, i) hz 0 (by decide)
    have g1 := flatMap_get (enc := waitE L) (C := 3) (fun _ => rfl) s.W.zipIdx i (x, i) hz 1 (by decide)
    have e0 : (waitsE L s.W).set (i * 3) (.int .i64 x.b) = waitsE L s.W := by
      exact set_same g0
    have e1 : (waitsE L s.W).set (i * 3 + 1) (.int .i64 x.c) = waitsE L s.W := by
      exact set_same g1
    rw [e0, e1] at o3
    have e2 : (waitsE L s.W).set (i * 3 + 2) (.pointer (some ⟨b, 0, none⟩)) = waitsE (L.put (i + 3) b c m) (s.W.set i ⟨x.b, x.c, q'⟩) := by
      have f1 := flatMap_set (enc := waitE L) (enc' := waitE (L.put (i + 3) b c m)) (C := 3) (fun _ => rfl) s.W.zipIdx i 2 (.pointer (some ⟨b, 0, none⟩)) (x, i) (by decide) hz
        (by unfold waitE; have : (L.put (i + 3) b c m).pb (i + 3) = b := if_pos rfl
            simp only [this]; rfl)
        (fun j y hj hy => by
          have hyj : y.2 = j := by
            rw [List.getElem?_zipIdx] at hy
            obtain ⟨z, -, rfl⟩ := Option.map_eq_some_iff.1 hy
            simp
          unfold waitE; rw [pbo (y.2 + 3) (by omega)])
      unfold waitsE
      rw [f1]
      have hs := waitsE_same (L.put (i + 3) b c m) s.W (s.W.set i ⟨x.b, x.c, q'⟩) 0 (set_bc hx q').symm
      exact hs
    rw [e2] at o3
    rw [List.length_set]
    exact o3
  · intro g' hg'
    have := h.rwai g' hg'
    rw [RLay.put_role hb hc (by rw [this]; simp) (by rw [this]; simp) (by rw [this]; simp)]; exact this
  · intro j q2 hq2
    rw [hr j] at hq2
    by_cases hj : j = i + 3
    · subst hj
      rw [if_pos rfl] at hq2
      obtain rfl := Option.some.inj hq2
      have e1 : (L.put (i + 3) b c m).pb (i + 3) = b := if_pos rfl
      have e2 : (L.put (i + 3) b c m).ps (i + 3) = c := if_pos rfl
      have e3 : (L.put (i + 3) b c m).pc (i + 3) = m := if_pos rfl
      rw [e1, e2, e3]
      refine ⟨hp.keep K (hne _ (by rw [hb]; simp)) (hne _ (by rw [hc]; simp)), if_pos rfl, ?_⟩
      show (if c = b then RRole.bp (i + 3) else if c = c then RRole.bs (i + 3) else _) = _
      rw [if_neg (fun e => hp.ne e.symm), if_pos rfl]
    · rw [if_neg hj] at hq2
      obtain ⟨p1, p2, p3⟩ := h.poo j q2 hq2
      have e1 : (L.put (i + 3) b c m).pb j = L.pb j := if_neg hj
      have e2 : (L.put (i + 3) b c m).ps j = L.ps j := if_neg hj
      have e3 : (L.put (i + 3) b c m).pc j = L.pc j := if_neg hj
      rw [e1, e2, e3]
      refine ⟨p1.keep K (hne _ (by rw [p2]; simp)) (hne _ (by rw [p3]; simp)), ?_, ?_⟩
      · rw [RLay.put_role hb hc (by rw [p2]; simp) (by rw [p2]; simpa using hj) (by rw [p2]; simp)]; exact p2
      · rw [RLay.put_role hb hc (by rw [p3]; simp) (by rw [p3]; simp) (by rw [p3]; simpa using hj)]; exact p3

/-- pool n lies at b, its shares at c; the row of what waits is block g now -/
def RLay.add (L : RLay) (j b c m g : Nat) : RLay :=
  ⟨fun x => if x = b then .bp j else if x = c then .bs j else if x = g then .wrow else if L.role x = .wrow ∨ L.role x = .bp j ∨ L.role x = .bs j then .none else L.role x, L.g, fun i => if i = j then b else L.pb i, fun i => if i = j then c else L.ps i, fun i => if i = j then m else L.pc i⟩
theorem RLay.add_role {L : RLay} {j b c m g x : Nat} (hb : x ≠ b) (hc : x ≠ c) (hg : x ≠ g) (h0 : L.role x ≠ .wrow) (h1 : L.role x ≠ .bp j) (h2 : L.role x ≠ .bs j) : (L.add j b c m g).role x = L.role x := by
  show (if x = b then RRole.bp j else if x = c then RRole.bs j else if x = g then RRole.wrow else if L.role x = .wrow ∨ L.role x = .bp j ∨ L.role x = .bs j then RRole.none else L.role x) = _
  rw [if_neg hb, if_neg hc, if_neg hg, if_neg (fun e => e.elim h0 (fun e => e.elim h1 h2))]
theorem RLay.add_some {L : RLay} {j b c m g x : Nat} (h : (L.add j b c m g).role x ≠ .none) : x = b ∨ x = c ∨ x = g ∨ L.role x ≠ .none := by
  by_cases hb : x = b
  · exact .inl hb
  · by_cases hc : x = c
    · exact .inr (.inl hc)
    · by_cases hg : x = g
      · exact .inr (.inr (.inl hg))
      · refine .inr (.inr (.inr fun e => h ?_))
        show (if x = b then RRole.bp j else if x = c then RRole.bs j else if x = g then RRole.wrow else if L.role x = .wrow ∨ L.role x = .bp j ∨ L.role x = .bs j then RRole.none else L.role x) = _
        rw [if_neg hb, if_neg hc, if_neg hg]; split
        · rfl
        · exact e
/-- one more waits: its pool at b, its row in block g -/
theorem RStL.waitAdd {sb : Nat} {L : RLay} {wv wv' : Value} {s : SS} {w w' : World} (h : RStL sb L wv s w) {g b c m : Nat} {k cy : Int} {q' : QS} (hok : SS.Ok ⟨s.P, s.W ++ [⟨k, cy, q'⟩]⟩)
    (K : Keep (fun y => y = sb ∨ L.role y = .wrow) w w') (ht : RowAt sb 112 [.slice (some ⟨L.g, 0, none⟩) 3 3, wv'] w') (hg : wv'.ownBlock = some g) (hgn : L.role g = .wrow ∨ L.role g = .none)
    (hw : w'.ownsRow 0 127 3 wv' (s.W.length + 1) (waitsE L s.W ++ [.int .i64 k, .int .i64 cy, .pointer (some ⟨b, 0, none⟩)]))
    (hp : RPoolAt b c m q' w') (hb : L.role b = .none) (hc : L.role c = .none) (hbg : b ≠ g) (hcg : c ≠ g) :
    RStL sb (L.add (s.W.length + 3) b c m g) wv' ⟨s.P, s.W ++ [⟨k, cy, q'⟩]⟩ w' := by
  have hr := SS.rget_snoc (s := s) ⟨k, cy, q'⟩
  have pbo : ∀ j, j ≠ s.W.length + 3 → (L.add (s.W.length + 3) b c m g).pb j = L.pb j := fun j hj => if_neg hj
  have hne : ∀ y r, L.role y = r → r ≠ .none → y ≠ b ∧ y ≠ c := fun y r hy hr => ⟨fun e => hr (by rw [← hy, e, hb]), fun e => hr (by rw [← hy, e, hc])⟩
  have hng : ∀ y r, L.role y = r → r ≠ .none → r ≠ .wrow → y ≠ g := fun y r hy h0 h1 e => by
    subst e
    rcases hgn with e | e
    · exact h1 (by rw [← hy, e])
    · exact h0 (by rw [← hy, e])
  have keepN : ∀ y r, L.role y = r → r ≠ .wrow → r ≠ .top → ¬ (y = sb ∨ L.role y = .wrow) := fun y r hy h1 h2 e => by
    rcases e with e | e
    · subst e; rw [h.rtop] at hy; exact h2 hy.symm
    · rw [hy] at e; exact h1 e
  have nob : s.rget (s.W.length + 3) = none := by rw [SS.rget_wait, List.getElem?_eq_none (Nat.le_refl _)]; rfl
  refine ⟨hok, ht, ?_, ?_, ?_, ?_, ?_, ?_⟩
  · rw [RLay.add_role (hne _ _ h.rtop (by simp)).1 (hne _ _ h.rtop (by simp)).2 (hng _ _ h.rtop (by simp) (by simp)) (by rw [h.rtop]; simp) (by rw [h.rtop]; simp) (by rw [h.rtop]; simp)]; exact h.rtop
  · rw [rptr_low (s := s) (L := L) (by rw [hr, if_neg (by omega)]) (pbo 0 (by omega)), rptr_low (s := s) (L := L) (by rw [hr, if_neg (by omega)]) (pbo 1 (by omega)), rptr_low (s := s) (L := L) (by rw [hr, if_neg (by omega)]) (pbo 2 (by omega))]
    exact h.row.keep K (keepN _ _ h.rrow (by simp) (by simp))
  · show (L.add (s.W.length + 3) b c m g).role L.g = .row
    rw [RLay.add_role (hne _ _ h.rrow (by simp)).1 (hne _ _ h.rrow (by simp)).2 (hng _ _ h.rrow (by simp) (by simp)) (by rw [h.rrow]; simp) (by rw [h.rrow]; simp) (by rw [h.rrow]; simp)]; exact h.rrow
  · have e : waitsE (L.add (s.W.length + 3) b c m g) (s.W ++ [⟨k, cy, q'⟩]) = waitsE L s.W ++ [.int .i64 k, .int .i64 cy, .pointer (some ⟨b, 0, none⟩)] := by
      have f : ∀ (l : List WP) (n : Nat), n + l.length ≤ s.W.length → (l.zipIdx n).flatMap (waitE (L.add (s.W.length + 3) b c m g)) = (l.zipIdx n).flatMap (waitE L) := by
        intro l
        induction l with
        | nil => intro n _; rfl
        | cons y l ih =>
          intro n hn
          simp only [List.length_cons] at hn
          rw [List.zipIdx_cons, List.flatMap_cons, List.flatMap_cons, ih (n + 1) (by omega)]
          congr 1
          unfold waitE
          rw [pbo (n + 3) (by omega)]
      unfold waitsE
      rw [List.zipIdx_append, List.flatMap_append, f s.W 0 (by omega)]
      congr 1
      have : (L.add (s.W.length + 3) b c m g).pb (s.W.length + 3) = b := if_pos rfl
      simp [waitE, this]
    rw [e, List.length_append]
    exact hw
  · intro g' hg'
    have : g' = g := by rw [hg] at hg'; exact (Option.some.inj hg').symm
    subst this
    show (if g' = b then RRole.bp _ else if g' = c then RRole.bs _ else if g' = g' then RRole.wrow else _) = _
    rw [if_neg (fun e => hbg e.symm), if_neg (fun e => hcg e.symm), if_pos rfl]
  · intro j q2 hq2
    rw [hr j] at hq2
    by_cases hj : j = s.W.length + 3
    · subst hj
      rw [if_pos rfl] at hq2
      obtain rfl := Option.some.inj hq2
      have e1 : (L.add (s.W.length + 3) b c m g).pb (s.W.length + 3) = b := if_pos rfl
      have e2 : (L.add (s.W.length + 3) b c m g).ps (s.W.length + 3) = c := if_pos rfl
      have e3 : (L.add (s.W.length + 3) b c m g).pc (s.W.length + 3) = m := if_pos rfl
      rw [e1, e2, e3]
      refine ⟨hp, if_pos rfl, ?_⟩
      show (if c = b then RRole.bp _ else if c = c then RRole.bs _ else _) = _
      rw [if_neg (fun e => hp.ne e.symm), if_pos rfl]
    · rw [if_neg hj] at hq2
      obtain ⟨p1, p2, p3⟩ := h.poo j q2 hq2
      have e1 : (L.add (s.W.length + 3) b c m g).pb j = L.pb j := if_neg hj
      have e2 : (L.add (s.W.length + 3) b c m g).ps j = L.ps j := if_neg hj
      have e3 : (L.add (s.W.length + 3) b c m g).pc j = L.pc j := if_neg hj
      rw [e1, e2, e3]
      refine ⟨p1.keep K (keepN _ _ p2 (by simp) (by simp)) (keepN _ _ p3 (by simp) (by simp)), ?_, ?_⟩
      · rw [RLay.add_role (hne _ _ p2 (by simp)).1 (hne _ _ p2 (by simp)).2 (hng _ _ p2 (by simp) (by simp)) (by rw [p2]; simp) (by rw [p2]; simpa using hj) (by rw [p2]; simp)]; exact p2
      · rw [RLay.add_role (hne _ _ p3 (by simp)).1 (hne _ _ p3 (by simp)).2 (hng _ _ p3 (by simp) (by simp)) (by rw [p3]; simp) (by rw [p3]; simp) (by rw [p3]; simpa using hj)]; exact p3
end Go.Proofs.YtajnfkmkombajacGreatDoor
