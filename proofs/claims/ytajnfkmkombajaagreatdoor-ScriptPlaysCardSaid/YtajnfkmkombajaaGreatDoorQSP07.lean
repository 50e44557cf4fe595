/-
  Stakes of package stake in memory: how they lie; the calls that only read.
  Contracts of package stake: New, Register, Join, Add.
  Contracts: stake.Register; maps.Clone at a pool's map; pool.Copy.
-/
import Derived.Test.YtajnfkmkombajaaGreatDoorQSP06
import Derived.Test.YtajnfkmkombajaaGreatDoorQSP04
import Derived.Deep.RegionWith
import Derived.Shelf.SlMaps.Clone
import Derived.Deep.RegionHeld3
set_option linter.unusedVariables false
set_option linter.unusedSimpArgs false
set_option linter.unusedVariables false
namespace Go.Proofs.YtajnfkmkombajaaGreatDoor
open Go.RowKit Go.Maps
def blkElem (v : Value) : Option (DataW Unit × List MemPlace) :=
 match v with
 | .pointer (some a) => if a.off = 0 ∧ a.spot = none then some (.lit (.int .i64 a.block), []) else none
 | _ => none
theorem blkElem_mk (b : Nat) : blkElem (.pointer (some ⟨b, 0, none⟩)) = some (.lit (.int .i64 b), []) := by simp [blkElem]
theorem blkElem_inv {v : Value} {y : DataW Unit × List MemPlace} (h : blkElem v = some y) : ∃ b : Nat, v = .pointer (some ⟨b, 0, none⟩) ∧ y = (.lit (.int .i64 b), []) := by
 unfold blkElem at h
 split at h
 · next a =>
   split at h
   · next hc =>
     cases h
     obtain ⟨b, o, s⟩ := a
     simp only at hc
     obtain ⟨rfl, rfl⟩ := hc
     exact ⟨b, rfl, rfl⟩
   · cases h
 · cases h
inductive Role where
 | none
 | top
 | bak (k : Nat)
 | wai (k : Nat)
 | poo (k : Nat) (c : Option Int)
 | map (k : Nat) (c : Option Int)
structure Lay where
 bb : Nat → Nat
 wm : Nat → Nat
 pb : Nat → Option Int → Nat
 pm : Nat → Option Int → Nat
 role : Nat → Role
def bptr (s : SS) (L : Lay) (k : Nat) : Value := if s.is k then .pointer (some ⟨L.bb k, 0, none⟩) else .pointer none
def waitD (L : Lay) (k : Nat) (c : Int) (o : Option QS) : DataW Unit := if o.isSome then .lit (.int .i64 (L.pb k (some c))) else .nil
structure StakesL (sb : Nat) (L : Lay) (n : Nat) (s : SS) (w : World) : Prop where
 ok : s.Ok
 top : RowAt sb 143 [bptr s L 0, bptr s L 1, bptr s L 2] w
 rtop : L.role sb = .top
 bak : ∀ k : Nat, k < 3 → s.is k = true → RowAt (L.bb k) 153 [.pointer (some ⟨L.pb k none, 0, none⟩), .map (some (L.wm k))] w ∧ L.role (L.bb k) = .bak k
 wai : ∀ k : Nat, k < 3 → s.is k = true → L.role (L.wm k) = .wai k ∧ ∃ D : DataW Unit, w.ownsMap Tryz.prog 3 blkElem (L.wm k) n D ∧ ∀ c : Int, D.atKey (.int .i64 c) .nil = waitD L k c (s.find k c)
 poo : ∀ (k : Nat) oc q, k < 3 → s.get k oc = some q → PoolAt (L.pb k oc) (L.pm k oc) n q w ∧ L.role (L.pb k oc) = .poo k oc ∧ L.role (L.pm k oc) = .map k oc
def StakesAt (sb : Nat) (F : Nat → Prop) (n : Nat) (s : SS) (w : World) : Prop := ∃ L, StakesL sb L n s w ∧ (∀ b, L.role b ≠ .none → F b) ∧ ∀ b, F b → b < w.heap.size
section
variable {sb n : Nat} {L : Lay} {s : SS} {w w' : World}
theorem StakesL.cell (h : StakesL sb L n s w) {k : Nat} (hk : k < 3) : w.cell? ⟨sb, k, none⟩ = some (bptr s L k) := by
 rw [h.top.cell]
 match k, hk with
 | 0, _ => rfl
 | 1, _ => rfl
 | 2, _ => rfl
theorem StakesL.baker (h : StakesL sb L n s w) {k : Nat} (hk : k < 3) (hi : s.is k = true) : w.cell? ⟨L.bb k, 0, none⟩ = some (.pointer (some ⟨L.pb k none, 0, none⟩)) ∧ w.cell? ⟨L.bb k, 1, none⟩ = some (.map (some (L.wm k))) := by
 have := (h.bak k hk hi).1
 exact ⟨by rw [this.cell]; rfl, by rw [this.cell]; rfl⟩
theorem bptr_yes {s : SS} {L : Lay} {k : Nat} (h : s.is k = true) : bptr s L k = .pointer (some ⟨L.bb k, 0, none⟩) := if_pos h
theorem bptr_no {s : SS} {L : Lay} {k : Nat} (h : s.is k = false) : bptr s L k = .pointer none := if_neg (by simp [h])
theorem SS.is_pool {s : SS} {k : Nat} : s.is (k : Int) = (s.get k none).isSome := by unfold SS.is SS.get; rw [SS.pool_nat]
theorem StakesL.keep {F : Nat → Prop} (h : StakesL sb L n s w) (k : Keep F w w') (hF : ∀ b, L.role b ≠ .none → ¬ F b) : StakesL sb L n s w' := by
 refine ⟨h.ok, h.top.keep k (hF _ (by rw [h.rtop]; simp)), h.rtop, fun j hj hi => ?_, fun j hj hi => ?_, fun j oc q hj hg => ?_⟩
 · obtain ⟨h1, h2⟩ := h.bak j hj hi
   exact ⟨h1.keep k (hF _ (by rw [h2]; simp)), h2⟩
 · obtain ⟨h1, D, h2, h3⟩ := h.wai j hj hi
   obtain ⟨es, clock, e1, e2⟩ := h2
   exact ⟨h1, D, ⟨es, clock, k.heap e1 (hF _ (by rw [h1]; simp)), e2⟩, h3⟩
 · obtain ⟨h1, h2, h3⟩ := h.poo j oc q hj hg
   exact ⟨h1.keep k (hF _ (by rw [h2]; simp)) (hF _ (by rw [h3]; simp)), h2, h3⟩
theorem StakesL.mono (h : StakesL sb L n s w) {m : Nat} (hm : n ≤ m) : StakesL sb L m s w :=
 ⟨h.ok, h.top, h.rtop, h.bak, fun k hk hi => by obtain ⟨h1, D, h2, h3⟩ := h.wai k hk hi; exact ⟨h1, D, h2.mono hm, h3⟩, fun k oc q hk hg => by obtain ⟨h1, h2⟩ := h.poo k oc q hk hg; exact ⟨h1.mono hm, h2⟩⟩
theorem StakesL.drewN (h : StakesL sb L n s w) (k : Nat) : StakesL sb L n s (w.drewN k) :=
 ⟨h.ok, h.top.drewN k, h.rtop, fun j hj hi => ⟨(h.bak j hj hi).1.drewN k, (h.bak j hj hi).2⟩, h.wai, fun j oc q hj hg => ⟨(h.poo j oc q hj hg).1.drewN k, (h.poo j oc q hj hg).2⟩⟩
theorem StakesL.turn (h : StakesL sb L n s w) {k : Nat} {oc : Option Int} {q q' : QS} {m : Nat} (hk : k < 3) (hg : s.get k oc = some q) (hp : PoolP (L.pb k oc) (L.pm k oc) m q' w w') (hm : n ≤ m) {s' : SS} (hs : s'.Ok)
   (hi : ∀ j : Nat, j < 3 → s'.is j = s.is j) (hget : ∀ j oc', j < 3 → (j = k ∧ oc' = oc → s'.get j oc' = some q') ∧ (¬ (j = k ∧ oc' = oc) → s'.get j oc' = s.get j oc')) : StakesL sb L m s' w' := by
 obtain ⟨-, rb, rm⟩ := h.poo k oc q hk hg
 have hne : ∀ b r, L.role b = r → r ≠ .poo k oc → r ≠ .map k oc → ¬ (b = L.pb k oc ∨ b = L.pm k oc) := by
   intro b r hr h1 h2 hb
   rcases hb with rfl | rfl
   · exact h1 (hr.symm.trans rb)
   · exact h2 (hr.symm.trans rm)
 refine ⟨hs, ?_, h.rtop, fun j hj hij => ?_, fun j hj hij => ?_, fun j oc' r hj hgj => ?_⟩
 · have e : ∀ j, j < 3 → bptr s' L j = bptr s L j := fun j hj => by unfold bptr; rw [hi j hj]
   rw [e 0 (by omega), e 1 (by omega), e 2 (by omega)]
   exact h.top.keep hp.1 (hne sb _ h.rtop (by simp) (by simp))
 · rw [hi j hj] at hij
   obtain ⟨h1, h2⟩ := h.bak j hj hij
   exact ⟨h1.keep hp.1 (hne _ _ h2 (by simp) (by simp)), h2⟩
 · rw [hi j hj] at hij
   obtain ⟨h1, D, h2, h3⟩ := h.wai j hj hij
   obtain ⟨es, clock, e1, e2⟩ := h2.mono hm
   refine ⟨h1, D, ⟨es, clock, hp.1.heap e1 (hne _ _ h1 (by simp) (by simp)), e2⟩, fun c => ?_⟩
   rw [h3 c]
   obtain ⟨g1, g2⟩ := hget j (some c) hj
   unfold waitD
   by_cases hx : j = k ∧ some c = oc
   · have a := g1 hx
     have b : (s.get j (some c)).isSome = true := by obtain ⟨rfl, rfl⟩ := hx; rw [hg]; rfl
     have a' : (s'.find j c).isSome = true := by show (s'.get j (some c)).isSome = true; rw [a]; rfl
     have b' : (s.find j c).isSome = true := b
     rw [a', b']
   · have a := g2 hx
     have a' : s'.find j c = s.find j c := a
     rw [a']
 · obtain ⟨g1, g2⟩ := hget j oc' hj
   by_cases hx : j = k ∧ oc' = oc
   · rw [g1 hx] at hgj
     obtain ⟨rfl, rfl⟩ := hx
     cases hgj
     exact ⟨hp.2, rb, rm⟩
   · rw [g2 hx] at hgj
     obtain ⟨h1, h2, h3⟩ := h.poo j oc' r hj hgj
     refine ⟨(h1.mono hm).keep hp.1 (hne _ _ h2 ?_ ?_) (hne _ _ h3 ?_ ?_), h2, h3⟩
     all_goals (intro e; first | (injection e with e1 e2; exact hx ⟨e1, e2⟩) | cases e)
end
section
variable {sb n : Nat} {F G : Nat → Prop} {s : SS} {w w' : World}
theorem StakesAt.keep (h : StakesAt sb F n s w) (k : Keep G w w') (hG : ∀ b, F b → ¬ G b) : StakesAt sb F n s w' := by
 obtain ⟨L, h1, h2, h3⟩ := h
 exact ⟨L, h1.keep k (fun b hb => hG b (h2 b hb)), h2, fun b hb => Nat.lt_of_lt_of_le (h3 b hb) k.size⟩
theorem StakesAt.drewN (h : StakesAt sb F n s w) (k : Nat) : StakesAt sb F n s (w.drewN k) := by
 obtain ⟨L, h1, h2, h3⟩ := h
 exact ⟨L, h1.drewN k, h2, h3⟩
theorem StakesAt.mono (h : StakesAt sb F n s w) {m : Nat} (hm : n ≤ m) : StakesAt sb F m s w := by
 obtain ⟨L, h1, h2, h3⟩ := h
 exact ⟨L, h1.mono hm, h2, h3⟩
theorem StakesAt.below (h : StakesAt sb F n s w) (k : Below w.heap.size w w') : StakesAt sb F n s w' := h.keep (G := fun _ => False) (Keep.of_below k) (fun _ _ => id)
theorem StakesAt.ok (h : StakesAt sb F n s w) : s.Ok := h.choose_spec.1.ok
end
theorem is_cases {s : SS} (h : s.Ok) (k : Int) : (k < 0 ∧ s.is k = false) ∨ (0 ≤ k ∧ 3 ≤ k ∧ s.is k = false) ∨ ∃ j : Nat, k = j ∧ j < 3 := by
 by_cases h0 : k < 0
 · refine .inl ⟨h0, ?_⟩
   unfold SS.is; rw [SS.pool_out h (.inl h0)]; rfl
 · by_cases h3 : 3 ≤ k
   · refine .inr (.inl ⟨by omega, h3, ?_⟩)
     unfold SS.is; rw [SS.pool_out h (.inr h3)]; rfl
   · exact .inr (.inr ⟨k.toNat, by omega, by omega⟩)
set_option maxHeartbeats 400000 in
theorem stake_Is (sb : Nat) (L : Lay) (n : Nat) (s : SS) (k : Int) (w : World) (h : StakesL sb L n s w) :
   Calls Tryz.prog 82 #[.pointer (some ⟨sb, 0, none⟩), .int .i64 k] w fun e w' => e = .returned (.bool (s.is k)) ∧ w = w' := by
 rcases is_cases h.ok k with ⟨h0, hi⟩ | ⟨h0, h3, hi⟩ | ⟨j, rfl, hj⟩
 · have HI := Lib.hid hi
   clear h hi
   go_enter Tryz.func82, Tryz.ntmps82
   go_wp2
   go_ret
   exact ⟨by rw [HI.out]; rfl, rfl⟩
 · have HI := Lib.hid hi
   clear h hi
   go_enter Tryz.func82, Tryz.ntmps82
   go_wp2
   go_ret
   exact ⟨by rw [HI.out]; rfl, rfl⟩
 · have hc := h.cell hj
   cases hi : s.is (j : Int) with
   | true =>
     rw [bptr_yes hi] at hc
     clear h hi
     go_enter Tryz.func82, Tryz.ntmps82
     go_wp2
     go_ret
     exact ⟨rfl, rfl⟩
   | false =>
     rw [bptr_no hi] at hc
     clear h hi
     go_enter Tryz.func82, Tryz.ntmps82
     go_wp2
     go_ret
     exact ⟨rfl, rfl⟩
theorem stake_baker_yes (sb : Nat) (L : Lay) (n : Nat) (s : SS) (k : Nat) (w : World) (h : StakesL sb L n s w) (hk : k < 3) (hi : s.is k = true) :
   Calls Tryz.prog 138 #[.pointer (some ⟨sb, 0, none⟩), .int .i64 k] w fun e w' => e = .returned (.tuple #[.pointer (some ⟨L.bb k, 0, none⟩), .nilIface]) ∧ w = w' := by
 have hc := h.cell hk
 rw [bptr_yes hi] at hc
 have HI := Lib.hid (stake_Is sb L n s (k : Int) w h)
 rw [hi] at HI
 clear h hi
 go_enter Tryz.func138, Tryz.ntmps138
 go_wp2_with (go_at_call 82; refine HI.out.mono ?_; rintro e w' ⟨rfl, rfl⟩)
 go_ret2
 exact ⟨rfl, rfl⟩
theorem stake_baker_no (A : Nat → Addr) (S : List Nat) (sb : Nat) (L : Lay) (n : Nat) (s : SS) (k : Int) (w : World) (h : StakesL sb L n s w) (hi : s.is k = false) (hE : Errs A S w) (h4 : 4 ∈ S) :
   Calls Tryz.prog 138 #[.pointer (some ⟨sb, 0, none⟩), .int .i64 k] w fun e w' => e = .returned (.tuple #[.pointer none, .iface 288 (.pointer (some (A 4)))]) ∧ Dr w w' := by
 have g4 : w.cell? ⟨5, 0, none⟩ = some (.iface 288 (.pointer (some (A 4)))) := hE.cell 4 h4
 have HI := Lib.hid (stake_Is sb L n s k w h)
 rw [hi] at HI
 clear h hi hE
 go_enter Tryz.func138, Tryz.ntmps138
 go_wp2_with (go_at_call 82; refine HI.out.mono ?_; rintro e w' ⟨rfl, rfl⟩)
 go_quiet (fail)
 go_wp2
 go_ret2
 exact ⟨rfl, _, rfl⟩
theorem SS.is_some {s : SS} {k : Nat} (h : s.is k = true) : ∃ q, s.pool k = some q ∧ s.get k none = some q := by
 obtain ⟨q, hq⟩ : ∃ q, s.pool k = some q := by
   unfold SS.is at h
   cases hp : s.pool k with
   | none => rw [hp] at h; cases h
   | some q => exact ⟨q, rfl⟩
 refine ⟨q, hq, ?_⟩
 have := hq; rw [SS.pool_nat] at this; exact this
theorem SS.is_none {s : SS} {k : Int} (h : s.is k = false) : s.pool k = none := by
 unfold SS.is at h
 cases hp : s.pool k with
 | none => rfl
 | some q => rw [hp] at h; cases h
theorem reg_cases {s : SS} (h : s.Ok) (k : Int) : s.is k = false ∨ ∃ j : Nat, k = j ∧ j < 3 ∧ s.is j = true := by
 cases hi : s.is k with
 | false => exact .inl rfl
 | true =>
   rcases is_cases h k with ⟨_, h2⟩ | ⟨_, _, h2⟩ | ⟨j, rfl, hj⟩
   · rw [hi] at h2; cases h2
   · rw [hi] at h2; cases h2
   · exact .inr ⟨j, rfl, hj, hi⟩
theorem stake_Staked (sb : Nat) (L : Lay) (n : Nat) (s : SS) (k : Int) (w : World) (h : StakesL sb L n s w) :
   Calls Tryz.prog 87 #[.pointer (some ⟨sb, 0, none⟩), .int .i64 k] w fun e w' => e = .returned (.int .i64 (s.staked k)) ∧ w = w' := by
 have HI := Lib.hid (stake_Is sb L n s k w h)
 rcases reg_cases h.ok k with hi | ⟨j, rfl, hj, hi⟩
 · rw [hi] at HI
   have HV := Lib.hid (show s.staked k = 0 by unfold SS.staked; rw [SS.is_none hi]; rfl)
   clear h hi
   go_enter Tryz.func87, Tryz.ntmps87
   go_wp2_with (go_at_call 82; refine HI.out.mono ?_; rintro e w' ⟨rfl, rfl⟩)
   go_ret
   exact ⟨by rw [HV.out]; rfl, rfl⟩
 · rw [hi] at HI
   obtain ⟨q, hq, hg⟩ := SS.is_some hi
   have HV := Lib.hid (show s.staked j = q.total by unfold SS.staked; rw [hq]; rfl)
   have hc := h.cell hj
   rw [bptr_yes hi] at hc
   obtain ⟨c0, c1⟩ := h.baker hj hi
   have HP := Lib.hid (pool_Total _ _ _ _ w (h.poo j none q hj hg).1)
   clear h hi hq hg
   go_enter Tryz.func87, Tryz.ntmps87
   go_wp2_with (first
     | (go_at_call 82; refine HI.out.mono ?_; rintro e w' ⟨rfl, rfl⟩)
     | (go_at_call 140; refine HP.out.mono ?_; rintro e w' ⟨rfl, rfl⟩))
   go_ret
   exact ⟨by rw [HV.out]; rfl, rfl⟩
theorem stake_Value (A : Nat → Addr) (S : List Nat) (sb : Nat) (L : Lay) (n : Nat) (s : SS) (o k : Int) (w : World) (h : StakesL sb L n s w) (hE : Errs A S w) (h2 : 2 ∈ S) (ho : (Lit.int .i64 o).wf = true) :
   Calls Tryz.prog 113 #[.pointer (some ⟨sb, 0, none⟩), .int .i64 o, .int .i64 k] w fun e w' => e = .returned (.int .i64 (s.value o k)) ∧ Dr w w' := by
 have HI := Lib.hid (stake_Is sb L n s k w h)
 rcases reg_cases h.ok k with hi | ⟨j, rfl, hj, hi⟩
 · rw [hi] at HI
   have HV := Lib.hid (show s.value o k = 0 by unfold SS.value; rw [SS.is_none hi]; rfl)
   clear h hi hE
   go_enter Tryz.func113, Tryz.ntmps113
   go_wp2_with (go_at_call 82; refine HI.out.mono ?_; rintro e w' ⟨rfl, rfl⟩)
   go_ret
   exact ⟨by rw [HV.out]; rfl, Dr.refl _⟩
 · rw [hi] at HI
   obtain ⟨q, hq, hg⟩ := SS.is_some hi
   have HV := Lib.hid (show s.value o j = q.value o by unfold SS.value; rw [hq]; rfl)
   have hc := h.cell hj
   rw [bptr_yes hi] at hc
   obtain ⟨c0, c1⟩ := h.baker hj hi
   have HP := Lib.hid (pool_Value A S _ _ _ _ o w hE h2 (h.poo j none q hj hg).1 ho)
   clear h hi hq hg hE ho
   go_enter Tryz.func113, Tryz.ntmps113
   go_wp2_with (first
     | (go_at_call 82; refine HI.out.mono ?_; rintro e w' ⟨rfl, rfl⟩)
     | (go_at_call 154; refine HP.out.mono ?_; rintro e w' ⟨rfl, d, rfl⟩))
   go_ret
   exact ⟨by rw [HV.out]; rfl, d, rfl⟩
end Go.Proofs.YtajnfkmkombajaaGreatDoor
namespace Go.Proofs.YtajnfkmkombajaaGreatDoor
open Go.RowKit Go.Maps
def grownF (F : Nat → Prop) (w w' : World) : Nat → Prop := fun k => F k ∨ (w.heap.size ≤ k ∧ k < w'.heap.size)
def StakesP (sb : Nat) (F : Nat → Prop) (n : Nat) (s : SS) (w w' : World) : Prop := Keep F w w' ∧ StakesAt sb (grownF F w w') n s w'
theorem StakesAt.foot {sb n : Nat} {F G : Nat → Prop} {s : SS} {w : World} (h : StakesAt sb F n s w) (hG : ∀ b, F b → G b) (hlt : ∀ b, G b → b < w.heap.size) : StakesAt sb G n s w := by
 obtain ⟨L, h1, h2, h3⟩ := h
 exact ⟨L, h1, fun b hb => hG b (h2 b hb), hlt⟩
theorem grownF_lt {F : Nat → Prop} {w w' : World} (hF : ∀ b, F b → b < w.heap.size) (hs : w.heap.size ≤ w'.heap.size) : ∀ b, grownF F w w' b → b < w'.heap.size := fun b hb => by
 rcases hb with hb | hb
 · exact Nat.lt_of_lt_of_le (hF b hb) hs
 · exact hb.2
theorem StakesAt.lt {sb n : Nat} {F : Nat → Prop} {s : SS} {w : World} (h : StakesAt sb F n s w) {b : Nat} (hb : F b) : b < w.heap.size := h.choose_spec.2.2 b hb
theorem StakesP.refl {sb n : Nat} {F : Nat → Prop} {s : SS} {w : World} (h : StakesAt sb F n s w) : StakesP sb F n s w w := ⟨Keep.refl _ _, h.foot (fun _ hb => .inl hb) (fun b hb => by rcases hb with hb | hb; exact h.lt hb; omega)⟩
theorem StakesP.drewN {sb n : Nat} {F : Nat → Prop} {s : SS} {w w' : World} (h : StakesP sb F n s w w') (k : Nat) : StakesP sb F n s w (w'.drewN k) := ⟨h.1.drewN k, h.2.drewN k⟩
theorem StakesP.mono {sb n m : Nat} {F : Nat → Prop} {s : SS} {w w' : World} (h : StakesP sb F n s w w') (hm : n ≤ m) : StakesP sb F m s w w' := ⟨h.1, h.2.mono hm⟩
theorem StakesL.turned {sb n m : Nat} {F : Nat → Prop} {L : Lay} {s s' : SS} {w w' : World} (h : StakesL sb L n s w) (hF : ∀ b, L.role b ≠ .none → F b) (hlt : ∀ b, F b → b < w.heap.size) {k : Nat} {oc : Option Int} {q q' : QS}
   (hk : k < 3) (hg : s.get k oc = some q) (hp : PoolP (L.pb k oc) (L.pm k oc) m q' w w') (hm : n ≤ m) (hs : s'.Ok)
   (hi : ∀ j : Nat, j < 3 → s'.is j = s.is j) (hget : ∀ j oc', j < 3 → (j = k ∧ oc' = oc → s'.get j oc' = some q') ∧ (¬ (j = k ∧ oc' = oc) → s'.get j oc' = s.get j oc')) : StakesP sb F m s' w w' := by
 obtain ⟨-, rb, rm⟩ := h.poo k oc q hk hg
 have hb : F (L.pb k oc) := hF _ (by rw [rb]; simp)
 have hmm : F (L.pm k oc) := hF _ (by rw [rm]; simp)
 exact ⟨hp.1.mono (fun i hi' => by rcases hi' with rfl | rfl; exact hb; exact hmm), L, h.turn hk hg hp hm hs hi hget, fun b hb' => .inl (hF b hb'), grownF_lt hlt hp.1.size⟩
theorem SS.setP_get {s : SS} (h : s.Ok) {k : Nat} (hk : k < 3) (q' : QS) : (∀ j : Nat, j < 3 → s.is k = true → (s.setP k q').is j = s.is j) ∧ ∀ j oc, j < 3 → (j = k ∧ oc = none → (s.setP k q').get j oc = some q') ∧ (¬ (j = k ∧ oc = none) → (s.setP k q').get j oc = s.get j oc) := by
 refine ⟨fun j hj hi => ?_, fun j oc hj => ⟨?_, fun hne => ?_⟩⟩
 · unfold SS.is at hi ⊢
   rw [SS.pool_setP h (by omega) (by omega)]
   split
   · next e => rw [e, hi]; rfl
   · rfl
 · rintro ⟨rfl, rfl⟩
   show (s.setP j q').P.getD j none = some q'
   rw [← SS.pool_nat, SS.pool_setP h (by omega) (by omega), if_pos rfl]
 · cases oc with
   | some c => rfl
   | none =>
     show (s.setP k q').P.getD j none = s.P.getD j none
     rw [← SS.pool_nat, ← SS.pool_nat, SS.pool_setP h (by omega) (by omega), if_neg (fun e => hne ⟨by omega, rfl⟩)]
theorem stake_New (w : World) : Calls Tryz.prog 50 #[] w fun e w' => e = .returned (.pointer (some ⟨w.heap.size, 0, none⟩)) ∧ Below w.heap.size w w' ∧ StakesAt w.heap.size (fun k => k = w.heap.size) 0 SS.new w' := by
 go_enter Tryz.func50, Tryz.ntmps50
 go_wp2
 go_ret
 refine ⟨rfl, (Below.refl _ _).alloc (Nat.le_refl _) _, ⟨fun _ => 0, fun _ => 0, fun _ _ => 0, fun _ _ => 0, fun b => if b = w.heap.size then .top else .none⟩, ⟨SS.new_ok, ?_, by simp, fun k hk hi => ?_, fun k hk hi => ?_, fun k oc q hk hg => ?_⟩, fun b hb => ?_, fun b hb => by rw [hb]; simp⟩
 · exact RowAt.new w 143 [.pointer none, .pointer none, .pointer none]
 · match k, hk with
   | 0, _ => cases hi
   | 1, _ => cases hi
   | 2, _ => cases hi
 · match k, hk with
   | 0, _ => cases hi
   | 1, _ => cases hi
   | 2, _ => cases hi
 · cases oc with
   | none =>
     match k, hk with
     | 0, _ => cases hg
     | 1, _ => cases hg
     | 2, _ => cases hg
   | some c => cases hg
 · by_cases e : b = w.heap.size
   · exact e
   · simp [e] at hb
theorem stake_join_no {s : SS} {o k n : Int} (h : s.is k = false) : s.joinOp o k n = (4, s) := by unfold SS.joinOp; rw [SS.is_none h]
theorem stake_join_yes {s : SS} {o k n : Int} {q : QS} (h : s.pool k = some q) : s.joinOp o k n = ((q.joinOp o n).1, s.setP k (q.joinOp o n).2) := by unfold SS.joinOp; rw [h]
theorem stake_add_no {s : SS} {k n : Int} (h : s.is k = false) : s.addOp k n = (4, s) := by unfold SS.addOp; rw [SS.is_none h]
theorem stake_add_yes {s : SS} {k n : Int} {q : QS} (h : s.pool k = some q) : s.addOp k n = ((q.addOp n).1, s.setP k (q.addOp n).2) := by unfold SS.addOp; rw [h]
theorem stake_Join (A : Nat → Addr) (S : List Nat) (sb : Nat) (F : Nat → Prop) (m : Nat) (s : SS) (o k n : Int) (w : World) (h : StakesAt sb F m s w) (hE : Errs A S w) (h2 : 2 ∈ S) (h4 : 4 ∈ S) (h7 : 7 ∈ S) (h8 : 8 ∈ S) (hm : m < maxLen) :
   Calls Tryz.prog 85 #[.pointer (some ⟨sb, 0, none⟩), .int .i64 o, .int .i64 k, .int .i64 n] w fun e w' => e = .returned (ev A (s.joinOp o k n).1) ∧ StakesP sb F (m + 1) (s.joinOp o k n).2 w w' := by
 obtain ⟨L, hL, hF, hlt⟩ := h
 rcases reg_cases hL.ok k with hi | ⟨j, rfl, hj, hi⟩
 · have E := Lib.hid (stake_join_no (o := o) (n := n) hi)
   have HB := Lib.hid (stake_baker_no A S sb L m s k w hL hi hE h4)
   have HS := Lib.hid (StakesP.refl (F := F) ⟨L, hL, hF, hlt⟩)
   clear hL hF hlt hi hE
   go_enter Tryz.func85, Tryz.ntmps85
   go_wp2_with (go_at_call 138; refine HB.out.mono ?_; rintro e w' ⟨rfl, d, rfl⟩)
   go_ret
   rw [E.out]
   exact ⟨rfl, (HS.out.mono (Nat.le_succ m)).drewN d⟩
 · obtain ⟨q, hq, hg⟩ := SS.is_some hi
   have E := Lib.hid (stake_join_yes (o := o) (n := n) hq)
   have HB := Lib.hid (stake_baker_yes sb L m s j w hL hj hi)
   obtain ⟨c0, c1⟩ := hL.baker hj hi
   have HJ := Lib.hid (pool_Join A S _ _ m q o n w hE h2 h7 h8 (hL.poo j none q hj hg).1 hm)
   have hok := SS.joinOp_ok hL.ok o j n
   rw [stake_join_yes hq] at hok
   obtain ⟨g1, g2⟩ := SS.setP_get hL.ok hj (q.joinOp o n).2
   have HT := Lib.hid (fun w' (hp : PoolP (L.pb j none) (L.pm j none) (m + 1) (q.joinOp o n).2 w w') => hL.turned hF hlt hj hg hp (Nat.le_succ m) hok (fun j' hj' => g1 j' hj' hi) g2)
   clear hL hF hlt hi hE hq hg hok g1 g2
   go_enter Tryz.func85, Tryz.ntmps85
   go_wp2_with (first
     | (go_at_call 138; refine HB.out.mono ?_; rintro e w' ⟨rfl, rfl⟩)
     | (go_at_call 139; refine HJ.out.mono ?_; rintro e w' ⟨rfl, hp⟩))
   go_ret
   rw [E.out]
   exact ⟨rfl, HT.out _ hp⟩
theorem stake_Add (A : Nat → Addr) (S : List Nat) (sb : Nat) (F : Nat → Prop) (m : Nat) (s : SS) (k n : Int) (w : World) (h : StakesAt sb F m s w) (hE : Errs A S w) (h2 : 2 ∈ S) (h4 : 4 ∈ S) :
   Calls Tryz.prog 199 #[.pointer (some ⟨sb, 0, none⟩), .int .i64 k, .int .i64 n] w fun e w' => e = .returned (ev A (s.addOp k n).1) ∧ StakesP sb F (m + 1) (s.addOp k n).2 w w' := by
 obtain ⟨L, hL, hF, hlt⟩ := h
 rcases reg_cases hL.ok k with hi | ⟨j, rfl, hj, hi⟩
 · have E := Lib.hid (stake_add_no (n := n) hi)
   have HB := Lib.hid (stake_baker_no A S sb L m s k w hL hi hE h4)
   have HS := Lib.hid (StakesP.refl (F := F) ⟨L, hL, hF, hlt⟩)
   clear hL hF hlt hi hE
   go_enter Tryz.func199, Tryz.ntmps199
   go_wp2_with (go_at_call 138; refine HB.out.mono ?_; rintro e w' ⟨rfl, d, rfl⟩)
   go_ret
   rw [E.out]
   exact ⟨rfl, (HS.out.mono (Nat.le_succ m)).drewN d⟩
 · obtain ⟨q, hq, hg⟩ := SS.is_some hi
   have E := Lib.hid (stake_add_yes (n := n) hq)
   have HB := Lib.hid (stake_baker_yes sb L m s j w hL hj hi)
   obtain ⟨c0, c1⟩ := hL.baker hj hi
   have HJ := Lib.hid (pool_Add A S _ _ m q n w hE h2 h4 (hL.poo j none q hj hg).1)
   have hok := SS.addOp_ok hL.ok j n
   rw [stake_add_yes hq] at hok
   obtain ⟨g1, g2⟩ := SS.setP_get hL.ok hj (q.addOp n).2
   have HT := Lib.hid (fun w' (hp : PoolP (L.pb j none) (L.pm j none) (m + 1) (q.addOp n).2 w w') => hL.turned hF hlt hj hg hp (Nat.le_succ m) hok (fun j' hj' => g1 j' hj' hi) g2)
   clear hL hF hlt hi hE hq hg hok g1 g2
   go_enter Tryz.func199, Tryz.ntmps199
   go_wp2_with (first
     | (go_at_call 138; refine HB.out.mono ?_; rintro e w' ⟨rfl, rfl⟩)
     | (go_at_call 226; refine HJ.out.mono ?_; rintro e w' ⟨rfl, hp⟩))
   go_ret
   rw [E.out]
   exact ⟨rfl, HT.out _ hp⟩
end Go.Proofs.YtajnfkmkombajaaGreatDoor
namespace Go.Proofs.YtajnfkmkombajaaGreatDoor
open Go.RowKit Go.Maps
theorem role_new {F : Nat → Prop} {L : Lay} {w : World} (hF : ∀ b, L.role b ≠ .none → F b) (hlt : ∀ b, F b → b < w.heap.size) {x : Nat} (hx : w.heap.size ≤ x) : L.role x = .none := by
 apply Classical.byContradiction
 intro h
 have := hlt _ (hF _ h); omega
theorem StakesL.reg {sb n : Nat} {F : Nat → Prop} {L : Lay} {s : SS} {w W : World} (h : StakesL sb L n s w) (hF : ∀ b, L.role b ≠ .none → F b) (hlt : ∀ b, F b → b < w.heap.size) {k : Nat} (hk : k < 3) (hi : s.is k = false)
   (hb : Below w.heap.size w W) {pb pm wm bb : Nat} (n1 : w.heap.size ≤ pb) (n2 : w.heap.size ≤ pm) (n3 : w.heap.size ≤ wm) (n4 : w.heap.size ≤ bb) (d1 : pb ≠ pm) (d2 : pb ≠ wm) (d3 : pb ≠ bb) (d4 : pm ≠ wm) (d5 : pm ≠ bb) (d6 : wm ≠ bb)
   (hp : PoolAt pb pm n QS.new W) (hm : W.ownsMap Tryz.prog 3 blkElem wm n (.map [] : DataW Unit)) (hr : RowAt bb 153 [.pointer (some ⟨pb, 0, none⟩), .map (some wm)] W) :
   StakesP sb F n (s.setP k QS.new) w (W.setCell ⟨sb, k, none⟩ (.pointer (some ⟨bb, 0, none⟩))) := by
 have rsb : w.heap.size ≠ sb := by have := hlt _ (hF sb (by rw [h.rtop]; simp)); omega
 have lsb := hlt _ (hF sb (by rw [h.rtop]; simp))
 have hkeep : Keep (fun b => b = sb) w (W.setCell ⟨sb, k, none⟩ (.pointer (some ⟨bb, 0, none⟩))) := Keep.put (Keep.of_below hb) _
 have hset : Keep (fun b => b = sb) W (W.setCell ⟨sb, k, none⟩ (.pointer (some ⟨bb, 0, none⟩))) := Keep.put (Keep.refl _ _) _
 have hsz := hb.size
 have hok := h.ok.setP (k := (k : Int)) (by omega) (by omega) QS.new_ok
 have hpool : ∀ j : Nat, (s.setP k QS.new).pool j = if (j : Int) = k then some QS.new else s.pool j := fun j => SS.pool_setP h.ok (by omega) (by omega) QS.new j
 have his : ∀ j : Nat, j ≠ k → (s.setP k QS.new).is j = s.is j := fun j hj => by unfold SS.is; rw [hpool, if_neg (by omega)]
 have hisk : (s.setP k QS.new).is k = true := by unfold SS.is; rw [hpool, if_pos rfl]; rfl
 have hnone : ∀ c, s.find k c = none := fun c => by
   cases hf : s.find k c with
   | none => rfl
   | some q => have := (h.ok.waits _ (SS.find_some hf)).2.1; simp only at this; rw [hi] at this; cases this
 have rold : ∀ x, L.role x ≠ .none → x ≠ pb ∧ x ≠ pm ∧ x ≠ wm ∧ x ≠ bb := fun x hx => by have := hlt _ (hF x hx); omega
 refine ⟨hkeep.mono (fun i hi' => by rw [hi']; exact hF sb (by rw [h.rtop]; simp)), ⟨fun j => if j = k then bb else L.bb j, fun j => if j = k then wm else L.wm j, fun j oc => if j = k ∧ oc = none then pb else L.pb j oc, fun j oc => if j = k ∧ oc = none then pm else L.pm j oc,
   fun x => if x = pb then .poo k none else if x = pm then .map k none else if x = wm then .wai k else if x = bb then .bak k else L.role x⟩, ?_, fun b hb' => ?_, grownF_lt hlt hkeep.size⟩
 · have roleo : ∀ x, L.role x ≠ .none → (if x = pb then Role.poo k none else if x = pm then .map k none else if x = wm then .wai k else if x = bb then .bak k else L.role x) = L.role x := fun x hx => by
     obtain ⟨q1, q2, q3, q4⟩ := rold x hx
     rw [if_neg q1, if_neg q2, if_neg q3, if_neg q4]
   refine ⟨hok, ?_, ?_, fun j hj hij => ?_, fun j hj hij => ?_, fun j oc q hj hg => ?_⟩
   · have ht := (h.top.below hb lsb).set k (.pointer (some ⟨bb, 0, none⟩))
     have e : ∀ j, bptr (s.setP k QS.new) ⟨fun j => if j = k then bb else L.bb j, fun j => if j = k then wm else L.wm j, fun j oc => if j = k ∧ oc = none then pb else L.pb j oc, fun j oc => if j = k ∧ oc = none then pm else L.pm j oc,
         fun x => if x = pb then .poo k none else if x = pm then .map k none else if x = wm then .wai k else if x = bb then .bak k else L.role x⟩ j = if j = k then .pointer (some ⟨bb, 0, none⟩) else bptr s L j := fun j => by
       unfold bptr
       by_cases hjk : j = k
       · subst hjk; rw [hisk]; simp
       · rw [his j hjk]; simp [hjk]
     rw [e 0, e 1, e 2]
     match k, hk with
     | 0, _ => exact ht
     | 1, _ => exact ht
     | 2, _ => exact ht
   · simp only; rw [roleo sb (by rw [h.rtop]; simp)]; exact h.rtop
   · simp only
     by_cases hjk : j = k
     · subst hjk
       simp only [if_true, and_self]
       refine ⟨hr.keep hset (by have := hr.lt; omega), ?_⟩
       rw [if_neg (fun e => d3 e.symm), if_neg (fun e => d5 e.symm), if_neg (fun e => d6 e.symm)]
     · rw [his j hjk] at hij
       obtain ⟨q1, q2⟩ := h.bak j hj hij
       simp only [hjk, if_false, false_and]
       exact ⟨q1.keep hkeep (by intro e; rw [e, h.rtop] at q2; cases q2), by rw [roleo _ (by rw [q2]; simp)]; exact q2⟩
   · simp only
     by_cases hjk : j = k
     · subst hjk
       simp only [if_true]
       refine ⟨by rw [if_neg (fun e => d2 e.symm), if_neg (fun e => d4 e.symm)], .map [], hm.setCell (a := ⟨sb, j, none⟩) (by simp only; omega) _, fun c => ?_⟩
       have e : (s.setP j QS.new).find j c = none := hnone c
       rw [e]
       show (DataW.map [] : DataW Unit).atKey _ _ = _
       rw [atKey_of_not_has (by rfl)]; rfl
     · rw [his j hjk] at hij
       obtain ⟨q1, D, q2, q3⟩ := h.wai j hj hij
       simp only [hjk, if_false]
       obtain ⟨es, clock, e1, e2⟩ := q2
       refine ⟨by rw [roleo _ (by rw [q1]; simp)]; exact q1, D, ⟨es, clock, hkeep.heap e1 (by intro e; rw [e, h.rtop] at q1; cases q1), e2⟩, fun c => ?_⟩
       rw [q3 c]
       unfold waitD
       have e : (s.setP k QS.new).find j c = s.find j c := rfl
       rw [e]; simp
   · simp only
     by_cases hjk : j = k ∧ oc = none
     · obtain ⟨rfl, rfl⟩ := hjk
       have hg' : (s.setP j QS.new).P.getD j none = some q := hg
       rw [← SS.pool_nat, hpool, if_pos rfl] at hg'
       cases hg'
       simp only [and_self, if_true]
       refine ⟨hp.keep hset (by omega) (by omega), by simp, by rw [if_neg (fun e => d1 e.symm)]⟩
     · have hg' : s.get j oc = some q := by
         cases oc with
         | some c => exact hg
         | none =>
           have hg2 : (s.setP k QS.new).P.getD j none = some q := hg
           rw [← SS.pool_nat, hpool, if_neg (fun e => hjk ⟨by omega, rfl⟩), SS.pool_nat] at hg2
           exact hg2
       obtain ⟨q1, q2, q3⟩ := h.poo j oc q hj hg'
       simp only [hjk, if_false]
       refine ⟨q1.keep hkeep (by intro e; rw [e, h.rtop] at q2; cases q2) (by intro e; rw [e, h.rtop] at q3; cases q3), by rw [roleo _ (by rw [q2]; simp)]; exact q2, by rw [roleo _ (by rw [q3]; simp)]; exact q3⟩
 · by_cases hold : L.role b = .none
   · simp only at hb'
     have hx : b = pb ∨ b = pm ∨ b = wm ∨ b = bb := by
       apply Classical.byContradiction
       intro hn
       simp only [not_or] at hn
       obtain ⟨q1, q2, q3, q4⟩ := hn
       rw [if_neg q1, if_neg q2, if_neg q3, if_neg q4] at hb'
       exact hb' hold
     have h1 := hp.lt; have h2 := hm.lt; have h3 := hr.lt
     have hs2 : (W.setCell ⟨sb, k, none⟩ (.pointer (some ⟨bb, 0, none⟩))).heap.size = W.heap.size := by simp [World.setCell]
     right
     rw [hs2]
     rcases hx with rfl | rfl | rfl | rfl <;> omega
   · exact .inl (hF b hold)
theorem reg_no {s : SS} {k : Int} (h : k < 0 ∨ 3 ≤ k) : s.regOp k = (2, s) := by unfold SS.regOp; rw [if_pos h]
theorem reg_is {s : SS} {k : Int} (h : ¬ (k < 0 ∨ 3 ≤ k)) (hi : s.is k = true) : s.regOp k = (5, s) := by unfold SS.regOp; rw [if_neg h, if_pos hi]
theorem reg_in {s : SS} {k : Int} (h : ¬ (k < 0 ∨ 3 ≤ k)) (hi : s.is k = false) : s.regOp k = (0, s.setP k QS.new) := by unfold SS.regOp; rw [if_neg h, if_neg (by simp [hi])]
set_option maxRecDepth 8000 in
set_option maxHeartbeats 1000000 in
theorem stake_Register (A : Nat → Addr) (S : List Nat) (sb : Nat) (F : Nat → Prop) (m : Nat) (s : SS) (k : Int) (w : World) (h : StakesAt sb F m s w) (hE : Errs A S w) (h2 : 2 ∈ S) (h5 : 5 ∈ S) :
   Calls Tryz.prog 53 #[.pointer (some ⟨sb, 0, none⟩), .int .i64 k] w fun e w' => e = .returned (ev A (s.regOp k).1) ∧ StakesP sb F m (s.regOp k).2 w w' := by
 have g2 : w.cell? ⟨0, 0, none⟩ = some (.iface 288 (.pointer (some (A 2)))) := hE.cell 2 h2
 have g5 : w.cell? ⟨2, 0, none⟩ = some (.iface 288 (.pointer (some (A 5)))) := hE.cell 5 h5
 clear hE
 have hok := h.ok
 have HS := Lib.hid (StakesP.refl h)
 by_cases hb : k < 0 ∨ 3 ≤ k
 · have E := Lib.hid (reg_no (s := s) hb)
   have hw : k < 0 ∨ (0 ≤ k ∧ 3 ≤ k) := by omega
   clear h hb
   rcases hw with h0 | ⟨h0, h3⟩
   all_goals
     go_enter Tryz.func53, Tryz.ntmps53
     go_wp2
     go_ret
     rw [E.out]
     exact ⟨rfl, HS.out⟩
 · obtain ⟨L, hL, hF, hlt⟩ := h
   have HI := Lib.hid (stake_Is sb L m s k w hL)
   have k0 : 0 ≤ k := by omega
   have k3 : k < 3 := by omega
   cases hi : s.is k with
   | true =>
     have E := Lib.hid (reg_is hb hi)
     rw [hi] at HI
     clear hL hF hlt hb hi hok
     go_enter Tryz.func53, Tryz.ntmps53
     go_wp2_with (go_at_call 82; refine HI.out.mono ?_; rintro e w' ⟨rfl, rfl⟩)
     go_ret
     rw [E.out]
     exact ⟨rfl, HS.out⟩
   | false =>
     have E := Lib.hid (reg_in hb hi)
     rw [hi] at HI
     obtain ⟨j, rfl⟩ := Int.eq_ofNat_of_zero_le k0
     have hj : j < 3 := by omega
     have HC := hL.cell hj
     rw [bptr_no hi] at HC
     have fz := hL.top.frozen j
     have lsb := hlt _ (hF sb (by rw [hL.rtop]; simp))
     have HR := Lib.hid (fun W pb pm wm bb hW n1 n2 n3 n4 d1 d2 d3 d4 d5 d6 hp hm hr => hL.reg hF hlt hj hi (W := W) hW (pb := pb) (pm := pm) (wm := wm) (bb := bb) n1 n2 n3 n4 d1 d2 d3 d4 d5 d6 hp hm hr)
     have hmm := @run_makeMap Tryz.prog
     clear hL hF hlt hb hi hok
     go_enter Tryz.func53, Tryz.ntmps53
     go_wp2_with (go_at_call 82; refine HI.out.mono ?_; rintro e w' ⟨rfl, rfl⟩)
     go_region_with (go_at_call 83; refine (pool_New _).mono ?_; rintro e w1 ⟨mb, rfl, hb1, hmb, hp1⟩; have hs1 := hb1.size; have ls1 : sb < w1.heap.size := (by simp at hs1; omega); have hc1 : w1.cell? ⟨sb, j, none⟩ = some (.pointer none) := (by rw [hb1.cell (p := ⟨sb, j, none⟩) (by simp; omega)]; simp [go_sem, lsb, HC]); have hf1 : w1.frozen? ⟨sb, j, none⟩ = false := (by rw [hb1.frozen (p := ⟨sb, j, none⟩) (by simp; omega)]; simp [go_sem, lsb, fz]))
     all_goals
       go_wp2
       go_ret
       rw [E.out]
       refine ⟨rfl, ?_⟩
     · have b1 : Below w.heap.size w w1 := ⟨hb1.os, hb1.tape, hb1.output, hb1.size, hb1.block⟩
       have hp1' : PoolAt (w.heap.size + 1) mb 0 QS.new w1 := hp1
       have hmb' : w.heap.size ≤ mb := hmb
       have hl := hp1'.lt
       have hne := hp1'.ne
       have hsz : w.heap.size ≤ w1.heap.size := hs1
       have := HR.out ((w1.alloc (.map #[] 0)).alloc (.cells #[.pointer (some ⟨w.heap.size + 1, 0, none⟩), .map (some w1.heap.size)] 153)) (w.heap.size + 1) mb w1.heap.size (w1.heap.size + 1)
         ((b1.alloc b1.size _).alloc (by simp; omega) _) (by omega) hmb' hsz (by omega) hne (by omega) (by omega) (by omega) (by omega) (by omega)
         ((hp1'.mono (Nat.zero_le m)).keep (F := fun _ => False) (((Keep.refl _ _).alloc _).alloc _) id id) (((World.ownsMap_made w1 _ _ _).alloc _).mono (Nat.zero_le m)) (by
           have := RowAt.new (w1.alloc (.map #[] 0)) 153 [.pointer (some ⟨w.heap.size + 1, 0, none⟩), .map (some w1.heap.size)]
           simpa using this)
       rw [World.setCell_alloc_past _ _ _ _ (by simp; omega), World.setCell_alloc_past _ _ _ _ ls1] at this
       exact this
     · have hsa : (w.alloc (.map #[] 0)).heap.size = w.heap.size + 1 := by simp
       have b0 : Below (w.alloc (.map #[] 0)).heap.size (w.alloc (.map #[] 0)) w1 := ⟨hb1.os, hb1.tape, hb1.output, hb1.size, hb1.block⟩
       have b1 : Below w.heap.size w w1 := btrans ((Below.refl _ w).alloc (Nat.le_refl _) (.map #[] 0)) b0
       have hp1' : PoolAt ((w.alloc (.map #[] 0)).heap.size + 1) mb 0 QS.new w1 := hp1
       rw [hsa] at hp1'
       have hmb' : (w.alloc (.map #[] 0)).heap.size ≤ mb := hmb
       have hl := hp1'.lt
       have hne := hp1'.ne
       have hsz : (w.alloc (.map #[] 0)).heap.size ≤ w1.heap.size := hs1
       have hm0 : w1.ownsMap Tryz.prog 3 blkElem w.heap.size 0 (.map [] : DataW Unit) := by
         obtain ⟨es, clock, e1, e2⟩ := World.ownsMap_made (H := Unit) w Tryz.prog 3 blkElem
         exact ⟨es, clock, below_heap b0 e1 (by omega), e2⟩
       have := HR.out (w1.alloc (.cells #[.pointer (some ⟨w.heap.size + 1 + 1, 0, none⟩), .map (some w.heap.size)] 153)) (w.heap.size + 1 + 1) mb w.heap.size w1.heap.size
         (b1.alloc b1.size _) (by omega) (by omega) (Nat.le_refl _) (by omega) hne (by omega) (by omega) (by omega) (by omega) (by omega)
         ((hp1'.mono (Nat.zero_le m)).keep (F := fun _ => False) ((Keep.refl _ _).alloc _) id id) ((hm0.alloc _).mono (Nat.zero_le m)) (RowAt.new w1 153 [.pointer (some ⟨w.heap.size + 1 + 1, 0, none⟩), .map (some w.heap.size)])
       rw [World.setCell_alloc_past _ _ _ _ ls1] at this
       exact this
end Go.Proofs.YtajnfkmkombajaaGreatDoor
