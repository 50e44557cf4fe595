/- Stakes of package stake in memory: how they lie; the calls that only read. -/
import Derived.Test.YtajnfkmkombajacDoorPool2
import Derived.Test.YtajnfkmkombajacDoorPlStakeSum
set_option linter.unusedVariables false
set_option linter.unusedSimpArgs false
namespace Go.Proofs.YtajnfkmkombajacDoor
open Go.RowKit Go.Maps

/-- a pointer to the beginning of a block reads as the block's number; nil is not read -/
def blkElem (v : Value) : Option (DataW Unit × List MemPlace) :=
  match v with
  | .pointer (some a) => if a.off = 0 ∧ a.spot = none then some (.lit (.int .i64 a.block), []) else none
  | _ => none
theorem blkElem_mk (b : Nat) : blkElem (.pointer (some ⟨b, 0, none⟩)) = some (.lit (.int .i64 b), []) := by simp [blkElem]
theorem blkElem_inv {v : Value} {y : DataW Unit × List MemPlace} (h : blkElem v = some y) : ∃ b : Nat, v = .pointer (some ⟨b, 0, none⟩) ∧ y = (.lit (.int .i64 b), []) := by
  unfold blkElem at h
  split at h
  · next a =>
    split at h
    · next hc =>
      cases h
      obtain ⟨b, o, s⟩ := a
      simp only at hc
      obtain ⟨rfl, rfl⟩ := hc
      exact ⟨b, rfl, rfl⟩
    · cases h
  · cases h
theorem blkElem_is {v : Value} {b : Nat} {ps : List MemPlace} (h : blkElem v = some (.lit (.int .i64 b), ps)) : v = .pointer (some ⟨b, 0, none⟩) := by
  obtain ⟨b', h1, h2⟩ := blkElem_inv h
  simp only [Prod.mk.injEq, DataW.lit.injEq, Lit.int.injEq, true_and] at h2
  obtain ⟨e, _⟩ := h2
  have : b = b' := by omega
  rw [h1, this]

/-- what a block is for -/
inductive Role where
  | none
  | top
  | bak (k : Nat)
  | wai (k : Nat)
  | poo (k : Nat) (c : Option Int)
  | map (k : Nat) (c : Option Int)
/-- where what lies: bakers, the maps of what waits, pools and their maps; what each block is for -/
structure Lay where
  bb : Nat → Nat
  wm : Nat → Nat
  pb : Nat → Option Int → Nat
  pm : Nat → Option Int → Nat
  role : Nat → Role

def bptr (s : SS) (L : Lay) (k : Nat) : Value := if s.is k then .pointer (some ⟨L.bb k, 0, none⟩) else .pointer none
def waitD (L : Lay) (k : Nat) (c : Int) (o : Option QS) : DataW Unit := if o.isSome then .lit (.int .i64 (L.pb k (some c))) else .nil

structure StakesL (sb : Nat) (L : Lay) (n : Nat) (s : SS) (w : World) : Prop where
  ok : s.Ok
  top : RowAt sb 49 [bptr s L 0, bptr s L 1, bptr s L 2] w
  rtop : L.role sb = .top
  bak : ∀ k : Nat, k < 3 → s.is k = true → RowAt (L.bb k) 55 [.pointer (some ⟨L.pb k none, 0, none⟩), .map (some (L.wm k))] w ∧ L.role (L.bb k) = .bak k
  wai : ∀ k : Nat, k < 3 → s.is k = true → L.role (L.wm k) = .wai k ∧ ∃ D : DataW Unit, w.ownsMap Tryd.prog 3 blkElem (L.wm k) n D ∧ ∀ c : Int, D.atKey (.int .i64 c) .nil = waitD L k c (s.find k c)
  poo : ∀ (k : Nat) oc q, k < 3 → s.get k oc = some q → PoolAt (L.pb k oc) (L.pm k oc) n q w ∧ L.role (L.pb k oc) = .poo k oc ∧ L.role (L.pm k oc) = .map k oc
/-- block sb is stakes that hold s, among the blocks F -/
def StakesAt (sb : Nat) (F : Nat → Prop) (n : Nat) (s : SS) (w : World) : Prop := ∃ L, StakesL sb L n s w ∧ (∀ b, L.role b ≠ .none → F b) ∧ ∀ b, F b → b < w.heap.size

section
variable {sb n : Nat} {L : Lay} {s : SS} {w w' : World}
theorem StakesL.cell (h : StakesL sb L n s w) {k : Nat} (hk : k < 3) : w.cell? ⟨sb, k, none⟩ = some (bptr s L k) := by
  rw [h.top.cell]
  match k, hk with
  | 0, _ => rfl
  | 1, _ => rfl
  | 2, _ => rfl
theorem StakesL.baker (h : StakesL sb L n s w) {k : Nat} (hk : k < 3) (hi : s.is k = true) : w.cell? ⟨L.bb k, 0, none⟩ = some (.pointer (some ⟨L.pb k none, 0, none⟩)) ∧ w.cell? ⟨L.bb k, 1, none⟩ = some (.map (some (L.wm k))) := by
  have := (h.bak k hk hi).1
  exact ⟨by rw [this.cell]; rfl, by rw [this.cell]; rfl⟩
theorem bptr_yes {s : SS} {L : Lay} {k : Nat} (h : s.is k = true) : bptr s L k = .pointer (some ⟨L.bb k, 0, none⟩) := if_pos h
theorem bptr_no {s : SS} {L : Lay} {k : Nat} (h : s.is k = false) : bptr s L k = .pointer none := if_neg (by simp [h])
theorem SS.is_pool {s : SS} {k : Nat} : s.is (k : Int) = (s.get k none).isSome := by unfold SS.is SS.get; rw [SS.pool_nat]
theorem StakesL.keep {F : Nat → Prop} (h : StakesL sb L n s w) (k : Keep F w w') (hF : ∀ b, L.role b ≠ .none → ¬ F b) : StakesL sb L n s w' := by
  refine ⟨h.ok, h.top.keep k (hF _ (by rw [h.rtop]; simp)), h.rtop, fun j hj hi => ?_, fun j hj hi => ?_, fun j oc q hj hg => ?_⟩
  · obtain ⟨h1, h2⟩ := h.bak j hj hi
    exact ⟨h1.keep k (hF _ (by rw [h2]; simp)), h2⟩
  · obtain ⟨h1, D, h2, h3⟩ := h.wai j hj hi
    obtain ⟨es, clock, e1, e2⟩ := h2
    exact ⟨h1, D, ⟨es, clock, k.heap e1 (hF _ (by rw [h1]; simp)), e2⟩, h3⟩
  · obtain ⟨h1, h2, h3⟩ := h.poo j oc q hj hg
    exact ⟨h1.keep k (hF _ (by rw [h2]; simp)) (hF _ (by rw [h3]; simp)), h2, h3⟩
theorem StakesL.mono (h : StakesL sb L n s w) {m : Nat} (hm : n ≤ m) : StakesL sb L m s w :=
  ⟨h.ok, h.top, h.rtop, h.bak, fun k hk hi => by obtain ⟨h1, D, h2, h3⟩ := h.wai k hk hi; exact ⟨h1, D, h2.mono hm, h3⟩, fun k oc q hk hg => by obtain ⟨h1, h2⟩ := h.poo k oc q hk hg; exact ⟨h1.mono hm, h2⟩⟩
theorem StakesL.drewN (h : StakesL sb L n s w) (k : Nat) : StakesL sb L n s (w.drewN k) :=
  ⟨h.ok, h.top.drewN k, h.rtop, fun j hj hi => ⟨(h.bak j hj hi).1.drewN k, (h.bak j hj hi).2⟩, h.wai, fun j oc q hj hg => ⟨(h.poo j oc q hj hg).1.drewN k, (h.poo j oc q hj hg).2⟩⟩

/-- one of the pools has turned -/
theorem StakesL.turn (h : StakesL sb L n s w) {k : Nat} {oc : Option Int} {q q' : QS} {m : Nat} (hk : k < 3) (hg : s.get k oc = some q) (hp : PoolP (L.pb k oc) (L.pm k oc) m q' w w') (hm : n ≤ m) {s' : SS} (hs : s'.Ok)
    (hi : ∀ j : Nat, j < 3 → s'.is j = s.is j) (hget : ∀ j oc', j < 3 → (j = k ∧ oc' = oc → s'.get j oc' = some q') ∧ (¬ (j = k ∧ oc' = oc) → s'.get j oc' = s.get j oc')) : StakesL sb L m s' w' := by
  obtain ⟨-, rb, rm⟩ := h.poo k oc q hk hg
  have hne : ∀ b r, L.role b = r → r ≠ .poo k oc → r ≠ .map k oc → ¬ (b = L.pb k oc ∨ b = L.pm k oc) := by
    intro b r hr h1 h2 hb
    rcases hb with rfl | rfl
    · exact h1 (hr.symm.trans rb)
    · exact h2 (hr.symm.trans rm)
  refine ⟨hs, ?_, h.rtop, fun j hj hij => ?_, fun j hj hij => ?_, fun j oc' r hj hgj => ?_⟩
  · have e : ∀ j, j < 3 → bptr s' L j = bptr s L j := fun j hj => by unfold bptr; rw [hi j hj]
    rw [e 0 (by omega), e 1 (by omega), e 2 (by omega)]
    exact h.top.keep hp.1 (hne sb _ h.rtop (by simp) (by simp))
  · rw [hi j hj] at hij
    obtain ⟨h1, h2⟩ := h.bak j hj hij
    exact ⟨h1.keep hp.1 (hne _ _ h2 (by simp) (by simp)), h2⟩
  · rw [hi j hj] at hij
    obtain ⟨h1, D, h2, h3⟩ := h.wai j hj hij
    obtain ⟨es, clock, e1, e2⟩ := h2.mono hm
    refine ⟨h1, D, ⟨es, clock, hp.1.heap e1 (hne _ _ h1 (by simp) (by simp)), e2⟩, fun c => ?_⟩
    rw [h3 c]
    obtain ⟨g1, g2⟩ := hget j (some c) hj
    unfold waitD
    by_cases hx : j = k ∧ some c = oc
    · have a := g1 hx
      have b : (s.get j (some c)).isSome = true := by obtain ⟨rfl, rfl⟩ := hx; rw [hg]; rfl
      have a' : (s'.find j c).isSome = true := by show (s'.get j (some c)).isSome = true; rw [a]; rfl
      have b' : (s.find j c).isSome = true := b
      rw [a', b']
    · have a := g2 hx
      have a' : s'.find j c = s.find j c := a
      rw [a']
  · obtain ⟨g1, g2⟩ := hget j oc' hj
    by_cases hx : j = k ∧ oc' = oc
    · rw [g1 hx] at hgj
      obtain ⟨rfl, rfl⟩ := hx
      cases hgj
      exact ⟨hp.2, rb, rm⟩
    · rw [g2 hx] at hgj
      obtain ⟨h1, h2, h3⟩ := h.poo j oc' r hj hgj
      refine ⟨(h1.mono hm).keep hp.1 (hne _ _ h2 ?_ ?_) (hne _ _ h3 ?_ ?_), h2, h3⟩
      all_goals (intro e; first | (injection e with e1 e2; exact hx ⟨e1, e2⟩) | cases e)
end

section
variable {sb n : Nat} {F G : Nat → Prop} {s : SS} {w w' : World}
theorem StakesAt.keep (h : StakesAt sb F n s w) (k : Keep G w w') (hG : ∀ b, F b → ¬ G b) : StakesAt sb F n s w' := by
  obtain ⟨L, h1, h2, h3⟩ := h
  exact ⟨L, h1.keep k (fun b hb => hG b (h2 b hb)), h2, fun b hb => Nat.lt_of_lt_of_le (h3 b hb) k.size⟩
theorem StakesAt.drewN (h : StakesAt sb F n s w) (k : Nat) : StakesAt sb F n s (w.drewN k) := by
  obtain ⟨L, h1, h2, h3⟩ := h
  exact ⟨L, h1.drewN k, h2, h3⟩
theorem StakesAt.mono (h : StakesAt sb F n s w) {m : Nat} (hm : n ≤ m) : StakesAt sb F m s w := by
  obtain ⟨L, h1, h2, h3⟩ := h
  exact ⟨L, h1.mono hm, h2, h3⟩
theorem StakesAt.below (h : StakesAt sb F n s w) (k : Below w.heap.size w w') : StakesAt sb F n s w' := h.keep (G := fun _ => False) (Keep.of_below k) (fun _ _ => id)
theorem StakesAt.ok (h : StakesAt sb F n s w) : s.Ok := h.choose_spec.1.ok
end

theorem is_cases {s : SS} (h : s.Ok) (k : Int) : (k < 0 ∧ s.is k = false) ∨ (0 ≤ k ∧ 3 ≤ k ∧ s.is k = false) ∨ ∃ j : Nat, k = j ∧ j < 3 := by
  by_cases h0 : k < 0
  · refine .inl ⟨h0, ?_⟩
    unfold SS.is; rw [SS.pool_out h (.inl h0)]; rfl
  · by_cases h3 : 3 ≤ k
    · refine .inr (.inl ⟨by omega, h3, ?_⟩)
      unfold SS.is; rw [SS.pool_out h (.inr h3)]; rfl
    · exact .inr (.inr ⟨k.toNat, by omega, by omega⟩)

set_option maxHeartbeats 400000 in
theorem stake_Is (sb : Nat) (L : Lay) (n : Nat) (s : SS) (k : Int) (w : World) (h : StakesL sb L n s w) :
    Calls Tryd.prog 22 #[.pointer (some ⟨sb, 0, none⟩), .int .i64 k] w fun e w' => e = .returned (.bool (s.is k)) ∧ w = w' := by
  rcases is_cases h.ok k with ⟨h0, hi⟩ | ⟨h0, h3, hi⟩ | ⟨j, rfl, hj⟩
  · have HI := Lib.hid hi
    clear h hi
    go_enter Tryd.func22, Tryd.ntmps22
    go_wp2
    go_ret
    exact ⟨by rw [HI.out]; rfl, rfl⟩
  · have HI := Lib.hid hi
    clear h hi
    go_enter Tryd.func22, Tryd.ntmps22
    go_wp2
    go_ret
    exact ⟨by rw [HI.out]; rfl, rfl⟩
  · have hc := h.cell hj
    cases hi : s.is (j : Int) with
    | true =>
      rw [bptr_yes hi] at hc
      clear h hi
      go_enter Tryd.func22, Tryd.ntmps22
      go_wp2
      go_ret
      exact ⟨rfl, rfl⟩
    | false =>
      rw [bptr_no hi] at hc
      clear h hi
      go_enter Tryd.func22, Tryd.ntmps22
      go_wp2
      go_ret
      exact ⟨rfl, rfl⟩

/-- a baker's address, and an error -/
theorem stake_baker_yes (sb : Nat) (L : Lay) (n : Nat) (s : SS) (k : Nat) (w : World) (h : StakesL sb L n s w) (hk : k < 3) (hi : s.is k = true) :
    Calls Tryd.prog 24 #[.pointer (some ⟨sb, 0, none⟩), .int .i64 k] w fun e w' => e = .returned (.tuple #[.pointer (some ⟨L.bb k, 0, none⟩), .nilIface]) ∧ w = w' := by
  have hc := h.cell hk
  rw [bptr_yes hi] at hc
  have HI := Lib.hid (stake_Is sb L n s (k : Int) w h)
  rw [hi] at HI
  clear h hi
  go_enter Tryd.func24, Tryd.ntmps24
  go_wp2_with (go_at_call 22; refine HI.out.mono ?_; rintro e w' ⟨rfl, rfl⟩)
  go_ret2
  exact ⟨rfl, rfl⟩
theorem stake_baker_no (A : Nat → Addr) (S : List Nat) (sb : Nat) (L : Lay) (n : Nat) (s : SS) (k : Int) (w : World) (h : StakesL sb L n s w) (hi : s.is k = false) (hE : Errs A S w) (h4 : 4 ∈ S) :
    Calls Tryd.prog 24 #[.pointer (some ⟨sb, 0, none⟩), .int .i64 k] w fun e w' => e = .returned (.tuple #[.pointer none, .iface 181 (.pointer (some (A 4)))]) ∧ Dr w w' := by
  have g4 : w.cell? ⟨2, 0, none⟩ = some (.iface 181 (.pointer (some (A 4)))) := hE.cell 4 h4
  have HI := Lib.hid (stake_Is sb L n s k w h)
  rw [hi] at HI
  clear h hi hE
  go_enter Tryd.func24, Tryd.ntmps24
  go_wp2_with (go_at_call 22; refine HI.out.mono ?_; rintro e w' ⟨rfl, rfl⟩)
  go_quiet (fail)
  go_wp2
  go_ret2
  exact ⟨rfl, _, rfl⟩

theorem SS.is_some {s : SS} {k : Nat} (h : s.is k = true) : ∃ q, s.pool k = some q ∧ s.get k none = some q := by
  obtain ⟨q, hq⟩ : ∃ q, s.pool k = some q := by
    unfold SS.is at h
    cases hp : s.pool k with
    | none => rw [hp] at h; cases h
    | some q => exact ⟨q, rfl⟩
  refine ⟨q, hq, ?_⟩
  have := hq; rw [SS.pool_nat] at this; exact this
theorem SS.is_none {s : SS} {k : Int} (h : s.is k = false) : s.pool k = none := by
  unfold SS.is at h
  cases hp : s.pool k with
  | none => rfl
  | some q => rw [hp] at h; cases h
/-- registered: one of three; else not -/
theorem reg_cases {s : SS} (h : s.Ok) (k : Int) : s.is k = false ∨ ∃ j : Nat, k = j ∧ j < 3 ∧ s.is j = true := by
  cases hi : s.is k with
  | false => exact .inl rfl
  | true =>
    rcases is_cases h k with ⟨_, h2⟩ | ⟨_, _, h2⟩ | ⟨j, rfl, hj⟩
    · rw [hi] at h2; cases h2
    · rw [hi] at h2; cases h2
    · exact .inr ⟨j, rfl, hj, hi⟩

theorem stake_Staked (sb : Nat) (L : Lay) (n : Nat) (s : SS) (k : Int) (w : World) (h : StakesL sb L n s w) :
    Calls Tryd.prog 21 #[.pointer (some ⟨sb, 0, none⟩), .int .i64 k] w fun e w' => e = .returned (.int .i64 (s.staked k)) ∧ w = w' := by
  have HI := Lib.hid (stake_Is sb L n s k w h)
  rcases reg_cases h.ok k with hi | ⟨j, rfl, hj, hi⟩
  · rw [hi] at HI
    have HV := Lib.hid (show s.staked k = 0 by unfold SS.staked; rw [SS.is_none hi]; rfl)
    clear h hi
    go_enter Tryd.func21, Tryd.ntmps21
    go_wp2_with (go_at_call 22; refine HI.out.mono ?_; rintro e w' ⟨rfl, rfl⟩)
    go_ret
    exact ⟨by rw [HV.out]; rfl, rfl⟩
  · rw [hi] at HI
    obtain ⟨q, hq, hg⟩ := SS.is_some hi
    have HV := Lib.hid (show s.staked j = q.total by unfold SS.staked; rw [hq]; rfl)
    have hc := h.cell hj
    rw [bptr_yes hi] at hc
    obtain ⟨c0, c1⟩ := h.baker hj hi
    have HP := Lib.hid (pool_Total _ _ _ _ w (h.poo j none q hj hg).1)
    clear h hi hq hg
    go_enter Tryd.func21, Tryd.ntmps21
    go_wp2_with (first
      | (go_at_call 22; refine HI.out.mono ?_; rintro e w' ⟨rfl, rfl⟩)
      | (go_at_call 34; refine HP.out.mono ?_; rintro e w' ⟨rfl, rfl⟩))
    go_ret
    exact ⟨by rw [HV.out]; rfl, rfl⟩

theorem stake_Value (A : Nat → Addr) (S : List Nat) (sb : Nat) (L : Lay) (n : Nat) (s : SS) (o k : Int) (w : World) (h : StakesL sb L n s w) (hE : Errs A S w) (h2 : 2 ∈ S) (ho : (Lit.int .i64 o).wf = true) :
    Calls Tryd.prog 15 #[.pointer (some ⟨sb, 0, none⟩), .int .i64 o, .int .i64 k] w fun e w' => e = .returned (.int .i64 (s.value o k)) ∧ Dr w w' := by
  have HI := Lib.hid (stake_Is sb L n s k w h)
  rcases reg_cases h.ok k with hi | ⟨j, rfl, hj, hi⟩
  · rw [hi] at HI
    have HV := Lib.hid (show s.value o k = 0 by unfold SS.value; rw [SS.is_none hi]; rfl)
    clear h hi hE
    go_enter Tryd.func15, Tryd.ntmps15
    go_wp2_with (go_at_call 22; refine HI.out.mono ?_; rintro e w' ⟨rfl, rfl⟩)
    go_ret
    exact ⟨by rw [HV.out]; rfl, Dr.refl _⟩
  · rw [hi] at HI
    obtain ⟨q, hq, hg⟩ := SS.is_some hi
    have HV := Lib.hid (show s.value o j = q.value o by unfold SS.value; rw [hq]; rfl)
    have hc := h.cell hj
    rw [bptr_yes hi] at hc
    obtain ⟨c0, c1⟩ := h.baker hj hi
    have HP := Lib.hid (pool_Value A S _ _ _ _ o w hE h2 (h.poo j none q hj hg).1 ho)
    clear h hi hq hg hE ho
    go_enter Tryd.func15, Tryd.ntmps15
    go_wp2_with (first
      | (go_at_call 22; refine HI.out.mono ?_; rintro e w' ⟨rfl, rfl⟩)
      | (go_at_call 31; refine HP.out.mono ?_; rintro e w' ⟨rfl, d, rfl⟩))
    go_ret
    exact ⟨by rw [HV.out]; rfl, d, rfl⟩
end Go.Proofs.YtajnfkmkombajacDoor
