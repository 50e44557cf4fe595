/-
  Plain: sums over what waits, baker by baker. No program in sight.
  Contracts: stake.Total; what a range over a map of waiting pools meets.
  The listed errors stand while blocks of others turn.
-/
import Derived.Test.YtajnfkmkombajacGreatDoorQSA10
import Derived.Maps.RangeWalk
import Derived.Test.YtajnfkmkombajacGreatDoorQSA01
set_option linter.unusedVariables false
set_option linter.unusedSimpArgs false
set_option linter.unusedVariables false
namespace Go.Proofs.YtajnfkmkombajacGreatDoor
open Go.RowKit

/-- of the first k bakers all is done; of baker k what is no longer to come -/
def dn (k : Nat) (left : Lit → Bool) : Int → Int → Bool := fun b x => decide (b < (k : Int)) || (b == (k : Int) && !left (.int .i64 x))
/-- of the first k bakers all is done -/
def dk (k : Nat) : Int → Int → Bool := fun b _ => decide (b < (k : Int))
theorem dn_step (k : Nat) (left : Lit → Bool) (x : Int) : dn k (fun z => left z && !z.sameKey (.int .i64 x)) = addD (dn k left) k x := by
  funext b y
  have e : (Lit.int .i64 y).sameKey (.int .i64 x) = (y == x) := by
    by_cases h : y = x
    · subst h; simp [Lit.sameKey]
    · simp [Lit.sameKey, h]
  unfold dn addD
  simp only [e]
  cases decide (b < (k : Int)) <;> cases (b == (k : Int)) <;> cases left (.int .i64 y) <;> cases (y == x) <;> rfl
theorem dn_left {k : Nat} {left : Lit → Bool} {x : Int} (h : left (.int .i64 x) = true) : dn k left (k : Int) x = false := by
  unfold dn; simp [h]
theorem dn_end {k : Nat} {left : Lit → Bool} (h : ∀ kl, left kl = false) : dn k left = dk (k + 1) := by
  funext b y
  unfold dn dk
  rw [h]
  simp only [Bool.not_false, Bool.and_true]
  by_cases h1 : b < (k : Int)
  · rw [decide_eq_true h1, decide_eq_true (show b < ((k + 1 : Nat) : Int) by omega)]; rfl
  · rw [decide_eq_false h1]
    by_cases h2 : b = (k : Int)
    · rw [beq_iff_eq.2 h2, decide_eq_true (show b < ((k + 1 : Nat) : Int) by omega)]; rfl
    · rw [beq_eq_false_iff_ne.2 h2, decide_eq_false (show ¬ b < ((k + 1 : Nat) : Int) by omega)]; rfl

section
variable {s : SS} {g : WP → Int} {f : WP → WP} {p : WP → Bool}
/-- two ways to say what is done that agree on what is there -/
theorem SS.sumF_congr {d1 d2 : Int → Int → Bool} (h : ∀ x ∈ s.W, d1 x.b x.c = d2 x.b x.c) : s.sumF d1 g = s.sumF d2 g := by
  unfold SS.sumF; rw [List.map_congr_left (fun x hx => by rw [h x hx])]
theorem SS.partF_congr {d1 d2 : Int → Int → Bool} (h : ∀ x ∈ s.W, d1 x.b x.c = d2 x.b x.c) : s.partF d1 f = s.partF d2 f := by
  unfold SS.partF; rw [List.map_congr_left (fun x hx => by rw [h x hx])]
theorem any_congr_left {l : List WP} {p q : WP → Bool} (h : ∀ x ∈ l, p x = q x) : l.any p = l.any q := by
  induction l with
  | nil => rfl
  | cons a r ih => rw [List.any_cons, List.any_cons, h a (by simp), ih (fun x hx => h x (by simp [hx]))]
theorem SS.anyF_congr {d1 d2 : Int → Int → Bool} (h : ∀ x ∈ s.W, d1 x.b x.c = d2 x.b x.c) : s.anyF d1 p = s.anyF d2 p := by
  unfold SS.anyF; exact any_congr_left (fun x hx => by rw [h x hx])
theorem SS.Ok.wb (h : s.Ok) {x : WP} (hx : x ∈ s.W) : 0 ≤ x.b ∧ x.b < 3 ∧ s.is x.b = true := by
  have h2 := (h.waits x hx).2.1
  have : ∃ q, s.pool x.b = some q := by
    unfold SS.is at h2
    cases hp : s.pool x.b with
    | none => rw [hp] at h2; cases h2
    | some q => exact ⟨q, rfl⟩
  obtain ⟨q, hq⟩ := this
  have := h.lt hq
  exact ⟨this.1, this.2, h2⟩
theorem dk_zero (h : s.Ok) : ∀ x ∈ s.W, dk 0 x.b x.c = false := fun x hx => by have := (h.wb hx).1; unfold dk; simp; omega
theorem dk_three (h : s.Ok) : ∀ x ∈ s.W, dk 3 x.b x.c = true := fun x hx => by have := (h.wb hx).2.1; unfold dk; simp; omega
/-- a baker that is not registered has nothing that waits -/
theorem dk_skip (h : s.Ok) {k : Nat} (hi : s.is k = false) : ∀ x ∈ s.W, dk k x.b x.c = dk (k + 1) x.b x.c := fun x hx => by
  have h2 := (h.wb hx).2.2
  have hne : x.b ≠ (k : Int) := fun e => by rw [e, hi] at h2; cases h2
  unfold dk
  by_cases h1 : x.b < (k : Int)
  · rw [decide_eq_true h1, decide_eq_true (by omega)]
  · rw [decide_eq_false h1, decide_eq_false (by omega)]

/-- the sum of the first k bakers' pools, and of what is done -/
def SS.tot (s : SS) (k : Nat) (d : Int → Int → Bool) : Int := ((s.P.take k).map optT).sum + s.sumF d (·.q.total)
theorem SS.tot_zero (h : s.Ok) : s.tot 0 (dk 0) = 0 := by unfold SS.tot; rw [SS.sumF_none (dk_zero h)]; simp
theorem SS.tot_three (h : s.Ok) : s.tot 3 (dk 3) = s.total := by
  unfold SS.tot SS.total; rw [SS.sumF_all (dk_three h), List.take_of_length_le (by rw [h.three]; omega)]
theorem SS.take_succ (h : s.Ok) {k : Nat} (hk : k < 3) : ((s.P.take (k + 1)).map optT).sum = ((s.P.take k).map optT).sum + s.staked k := by
  have hl : k < s.P.length := by rw [h.three]; exact hk
  rw [List.take_succ_eq_append_getElem hl, List.map_append, List.sum_append]
  have : s.staked (k : Int) = optT s.P[k] := by
    unfold SS.staked; rw [SS.pool_nat, List.getD_eq_getElem?_getD, List.getElem?_eq_getElem hl]; rfl
  rw [this]; simp
theorem SS.tot_skip (h : s.Ok) {k : Nat} (hk : k < 3) (hi : s.is k = false) : s.tot (k + 1) (dk (k + 1)) = s.tot k (dk k) := by
  unfold SS.tot
  rw [SS.take_succ h hk, SS.sumF_congr (dk_skip h hi)]
  have : s.staked (k : Int) = 0 := by
    unfold SS.is at hi
    unfold SS.staked
    cases hp : s.pool (k : Int) with
    | none => rfl
    | some q => rw [hp] at hi; cases hi
  omega
theorem SS.tot_bd (h : s.Ok) {k : Nat} (hk : k ≤ 3) (d : Int → Int → Bool) : 0 ≤ s.tot k d ∧ s.tot k d ≤ 1125899906842624 * (3 + (s.W.length : Int)) := by
  have h1 := SS.sumF_bd (done := d) (g := fun x => x.q.total) h (fun x hx => ⟨hx.t0, hx.t1⟩)
  have h2 : ∀ l : List (Option QS), (∀ q, some q ∈ l → q.Ok) → 0 ≤ (l.map optT).sum ∧ (l.map optT).sum ≤ 1125899906842624 * (l.length : Int) := by
    intro l hl
    induction l with
    | nil => simp
    | cons a r ih =>
      have := ih (fun q hq => hl q (by simp [hq]))
      have ha : 0 ≤ optT a ∧ optT a ≤ 1125899906842624 := by
        cases a with
        | none => simp [optT]
        | some q => have hq := hl q (by simp); exact ⟨hq.t0, hq.t1⟩
      simp only [List.map_cons, List.sum_cons, List.length_cons]; omega
  have h3 := h2 (s.P.take k) (fun q hq => h.pools q (List.mem_of_mem_take hq))
  have h4 : (s.P.take k).length ≤ 3 := by rw [List.length_take]; omega
  unfold SS.tot; omega
theorem SS.tot_add (h : s.Ok) {k c : Int} {q : QS} {j : Nat} {d : Int → Int → Bool} (hq : s.find k c = some q) (hd : d k c = false) : s.tot j (addD d k c) = s.tot j d + q.total := by
  unfold SS.tot; rw [SS.sumF_add h hq hd]; simp only; omega
end
end Go.Proofs.YtajnfkmkombajacGreatDoor
namespace Go.Proofs.YtajnfkmkombajacGreatDoor
open Go.RowKit Go.Maps

theorem keyInt_inv : ∀ key kl, keyOf Tryz.prog 3 key = some kl → ∃ x, key = Value.int .i64 x := fun key kl hkey => by
  obtain ⟨x, rfl, _⟩ := Maps.keyOf_int_inv Tryz.underlying3 hkey; exact ⟨x, rfl⟩
def blkV (b : Nat) : Value := .pointer (some ⟨b, 0, none⟩)
theorem blkV_inv : ∀ v y, blkElem v = some y → ∃ c, v = blkV c := fun v y hv => by
  obtain ⟨c, rfl, _⟩ := blkElem_inv hv; exact ⟨c, rfl⟩
theorem keyInt_is {x : Int} {kl : Lit} (h : keyOf Tryz.prog 3 (.int .i64 x) = some kl) : kl = .int .i64 x ∧ (Lit.int .i64 x).wf = true := by
  obtain ⟨x', ex, rfl, hw⟩ := Maps.keyOf_int_inv Tryz.underlying3 h
  cases ex; exact ⟨rfl, hw⟩

theorem wait_start {L : Lay} {s : SS} (h : s.Ok) {k : Nat} {D : DataW Unit} (hD : ∀ c : Int, D.atKey (.int .i64 c) .nil = waitD L k c (s.find k c)) : ∀ x ∈ s.W, dn k (Maps.has D) x.b x.c = dk k x.b x.c := by
  intro x hx
  unfold dn dk
  by_cases h2 : x.b = (k : Int)
  · have hf := SS.find_mem h.apart hx
    rw [h2] at hf
    have hh : Maps.has D (.int .i64 x.c) = true := by
      cases hc : Maps.has D (.int .i64 x.c) with
      | true => rfl
      | false =>
        have h1 := hD x.c
        rw [atKey_of_not_has hc, hf] at h1
        simp [waitD] at h1
    rw [hh, h2]; simp
  · rw [beq_eq_false_iff_ne.2 h2]; simp
theorem wait_entry {L : Lay} {s : SS} {k : Nat} {D : DataW Unit} (hD : ∀ c : Int, D.atKey (.int .i64 c) .nil = waitD L k c (s.find k c)) {x : Int} {c : Nat} {y : DataW Unit × List MemPlace} (hy : blkElem (blkV c) = some y)
    (hat : ∀ zd, D.atKey (.int .i64 x) zd = y.1) : ∃ q, s.find k x = some q ∧ c = L.pb k (some x) := by
  have h1 := hat .nil
  rw [hD x] at h1
  have : y = (.lit (.int .i64 c), []) := by have := hy.symm.trans (blkElem_mk c); cases this; rfl
  subst this
  unfold waitD at h1
  cases hf : s.find k x with
  | none => rw [hf] at h1; simp at h1
  | some q =>
    rw [hf] at h1
    simp only [Option.isSome_some, if_true, DataW.lit.injEq, Lit.int.injEq, true_and] at h1
    exact ⟨q, rfl, by omega⟩

theorem StakesL.grown {sb n : Nat} {L : Lay} {s : SS} {w w' : World} (h : StakesL sb L n s w) {r : Option Nat} (hg : w.grownBy w' r) (hr : ∀ b, r = some b → L.role b = .none) : StakesL sb L n s w' := by
  have hk : Keep (fun b => r = some b) w w' := (Keep.refl _ _).grown hg (fun k hk => .inl hk)
  exact h.keep hk (fun b hb he => hb (hr b he))

theorem idx3 (a0 a1 a2 : Value) (i : Nat) (a : Value) (h : #[a0, a1, a2][i]? = some a) (wx : World) : (Instr.index 106 (.agg #[a0, a1, a2]) (.int .i64 i)).run Tryz.prog wx = .ok a wx := by
  have hi : i < 3 := by have := (Array.getElem?_eq_some_iff.1 h).1; simpa using this
  have hsz : ∀ w : World, (sizeOf 105).run Tryz.prog w = .ok 1 w := fun w => by kernel_rfl
  have hag : ∀ w : World, (isAgg 105).run Tryz.prog w = .ok false w := fun w => by kernel_rfl
  have hi' : (i : Int) < 3 := by omega
  simp [Instr.index, run_underlying Tryz.underlying106, asIntOf, hsz, hag, part, Result.andThen]
  have h' : [a0, a1, a2][i]? = some a := by simpa using h
  rw [if_pos hi, h']; rfl

set_option maxRecDepth 8000 in
set_option maxHeartbeats 2000000 in
theorem stake_Total (sb m : Nat) (F : Nat → Prop) (L : Lay) (s : SS) (w : World) (h : StakesL sb L m s w) (hF : ∀ b, L.role b ≠ .none → F b) (hlt : ∀ b, F b → b < w.heap.size) (hW : s.W.length ≤ 8000) :
    Calls Tryz.prog 17 #[.pointer (some ⟨sb, 0, none⟩)] w fun e w' => e = .returned (.int .i64 s.total) ∧ Below w.heap.size w w' := by
  have c0 := h.cell (k := 0) (by omega)
  have c1 := h.cell (k := 1) (by omega)
  have c2 := h.cell (k := 2) (by omega)
  obtain ⟨p0, hp0⟩ : ∃ p, p = bptr s L 0 := ⟨_, rfl⟩
  obtain ⟨p1, hp1⟩ : ∃ p, p = bptr s L 1 := ⟨_, rfl⟩
  obtain ⟨p2, hp2⟩ : ∃ p, p = bptr s L 2 := ⟨_, rfl⟩
  rw [← hp0] at c0; rw [← hp1] at c1; rw [← hp2] at c2
  have P0 := Lib.hid hp0; have P1 := Lib.hid hp1; have P2 := Lib.hid hp2
  clear hp0 hp1 hp2
  have hok := Lib.hid h.ok
  have hr0 : ∀ b, w.heap.size ≤ b → L.role b = .none := fun b hb => role_new hF hlt hb
  have HR := Lib.hid hr0
  have HT3 := Lib.hid (SS.tot_three h.ok)
  have HB := Lib.hid (fun k hk d => SS.tot_bd h.ok (k := k) hk d)
  have H := Lib.hid h
  clear h hr0
  go_enter Tryz.func17, Tryz.ntmps17
  go_wp2_with fail
  go_loopw [3, 12] (fun t i wr => ∃ k : Nat, k ≤ 3 ∧ i = .int .i64 k ∧ t = .int .i64 (s.tot k (dk k)) ∧ StakesL sb L m s wr ∧ Below w.heap.size w wr) (fun _ i _ => 3 - (intOf i).toNat)
  case atStart => exact ⟨0, by omega, rfl, by rw [SS.tot_zero hok.out], H.out, Below.refl _ _⟩
  case round =>
    obtain ⟨k, hk, rfl, rfl, hL, hb⟩ := hrel
    rename World => wo
    have HL := Lib.hid hL; have HBl := Lib.hid hb
    clear hL hb c0 c1 c2
    by_cases hlt3 : k < 3
    · have tb := HB.out k hk (dk k)
      have tt : s.tot k (dk k) ≤ 9223372036854775807 := by omega
      cases hi : s.is (k : Int) with
      | false =>
        have HSK := Lib.hid (SS.tot_skip hok.out hlt3 hi)
        have E := Lib.hid (bptr_no (L := L) hi)
        generalize s.tot k (dk k) = T0 at *
        clear hi
        have hk3 : k = 0 ∨ k = 1 ∨ k = 2 := by omega
        rcases hk3 with rfl | rfl | rfl
        · obtain rfl : p0 = .pointer none := P0.out.trans E.out
          have ix : ∀ wx, (Instr.index 106 (.agg #[.pointer none, p1, p2]) (.int .i64 0)).run Tryz.prog wx = .ok (.pointer none) wx := fun wx => idx3 (.pointer none) p1 p2 0 _ rfl wx
          go_wp2_with fail
          go_roundw
          case rel => exact ⟨1, by omega, rfl, by rw [HSK.out], HL.out, HBl.out⟩
          case measure => simp [intOf]
        · obtain rfl : p1 = .pointer none := P1.out.trans E.out
          have ix : ∀ wx, (Instr.index 106 (.agg #[p0, .pointer none, p2]) (.int .i64 1)).run Tryz.prog wx = .ok (.pointer none) wx := fun wx => idx3 p0 (.pointer none) p2 1 _ rfl wx
          go_wp2_with fail
          go_roundw
          case rel => exact ⟨2, by omega, rfl, by rw [HSK.out], HL.out, HBl.out⟩
          case measure => simp [intOf]
        · obtain rfl : p2 = .pointer none := P2.out.trans E.out
          have ix : ∀ wx, (Instr.index 106 (.agg #[p0, p1, .pointer none]) (.int .i64 2)).run Tryz.prog wx = .ok (.pointer none) wx := fun wx => idx3 p0 p1 (.pointer none) 2 _ rfl wx
          go_wp2_with fail
          go_roundw
          case rel => exact ⟨3, by omega, rfl, by rw [HSK.out], HL.out, HBl.out⟩
          case measure => simp [intOf]
      | true =>
        have E := Lib.hid (bptr_yes (L := L) hi)
        obtain ⟨x0, x1⟩ := HL.out.baker hlt3 hi
        obtain ⟨rw0, D, hD0, hD1⟩ := HL.out.wai k hlt3 hi
        obtain ⟨q, hq, hg⟩ := SS.is_some hi
        have HP := Lib.hid (pool_Total _ _ _ _ wo (HL.out.poo k none q hlt3 hg).1)
        have hst : s.tot (k + 1) (dk k) = s.tot k (dk k) + q.total := by
          have : s.staked (k : Int) = q.total := by unfold SS.staked; rw [hq]; rfl
          unfold SS.tot; rw [SS.take_succ hok.out hlt3]; omega
        have tb2 := HB.out (k + 1) (by omega) (dk k)
        rw [hst] at tb2
        have tt2 : s.tot k (dk k) + q.total ≤ 9223372036854775807 := by omega
        have tt3 : 0 ≤ s.tot k (dk k) + q.total := by omega
        have HST := Lib.hid (show s.tot (k + 1) (dn k (Maps.has D)) = s.tot k (dk k) + q.total by rw [← hst]; unfold SS.tot; rw [SS.sumF_congr (wait_start hok.out hD1)])
        have HD0 := Lib.hid hD0; have HD1 := Lib.hid hD1
        have hl0 : w.heap.size ≤ wo.heap.size := HBl.out.size
        have hwm := hD0.lt
        clear hst hi hq hg hD0 hD1 rw0 tb tb2
        generalize s.tot k (dk k) = T0 at *
        generalize q.total = qt at *
        have hk3 : k = 0 ∨ k = 1 ∨ k = 2 := by omega
        rcases hk3 with rfl | rfl | rfl
        · obtain rfl : p0 = .pointer (some ⟨L.bb 0, 0, none⟩) := P0.out.trans E.out
          have ix : ∀ wx, (Instr.index 106 (.agg #[.pointer (some ⟨L.bb 0, 0, none⟩), p1, p2]) (.int .i64 0)).run Tryz.prog wx = .ok (.pointer (some ⟨L.bb 0, 0, none⟩)) wx := fun wx => idx3 (.pointer (some ⟨L.bb 0, 0, none⟩)) p1 p2 0 _ rfl wx
          go_wp2_with (first
            | (go_at_call 77; refine HP.out.mono ?_; rintro e w' ⟨rfl, rfl⟩)
            | (at_range; refine wpList_range_own _ rfl _ 120 rfl 3 119 keyI Tryz.underlying120 blkElem (L.wm 0) m D rfl HD0.out ?_; intro w0 hrg0 hg0 hs0; have HRG0 := Lib.hid hrg0; have HL0 := Lib.hid (HL.out.grown hg0 (fun b hb => by cases hb)); have HB0 := Lib.hid (HBl.out.grown hg0 HBl.out.size (fun b hb => by cases hb)); clear hrg0 hg0))
          go_frame
          go_loopw [3] (fun t wx => ∃ left cnt, wx.ranges Tryz.prog 3 blkElem (L.wm 0) wo.heap.size m D left cnt ∧ t = .int .i64 (s.tot (0 + 1) (dn 0 left)) ∧ StakesL sb L m s wx ∧ Below w.heap.size w wx) (fun _ wx => wx.rangeLeft (L.wm 0) wo.heap.size)
          case atStart => exact ⟨_, _, HRG0.out, by rw [HST.out], HL0.out, HB0.out⟩
          case round =>
            obtain ⟨left, cnt, hrg, rfl, hL2, hb2⟩ := hrel
            have HRG := Lib.hid hrg; have HL2 := Lib.hid hL2; have HB2 := Lib.hid hb2
            clear hrg hL2 hb2 hs0
            go_wp2_with (at_next; refine wpList_next_ranges _ rfl _ rfl 3 keyI blkElem (Value.int .i64) blkV keyInt_inv blkV_inv (L.wm 0) wo.heap.size m D left cnt rfl HRG.out ?_ ?_)
            · intro _ hl0
              have HE := Lib.hid (dn_end (k := 0) hl0)
              go_wp2_with fail
              go_roundw
              case rel => exact ⟨0 + 1, by omega, rfl, by rw [HE.out], HL2.out, HB2.out⟩
              case measure => simp [intOf]
            · intro x c kl yd yp w1 cnt1 hkey hlk hv hat hrg1 hlt1 hg1 hs1 hen
              obtain ⟨rfl, hxw⟩ := keyInt_is hkey
              obtain ⟨qx, hfx, rfl⟩ := wait_entry HD1.out hv hat
              have HL3 := Lib.hid (HL2.out.grown hg1 (fun b hb => by cases hb; exact HR.out _ (Nat.le_trans HBl.out.size (Nat.le_refl _))))
              have HB3 := Lib.hid (HB2.out.grown hg1 HB2.out.size (fun b hb => by cases hb; exact HBl.out.size))
              have HPX := Lib.hid (pool_Total _ _ _ _ w1 (HL3.out.poo 0 (some x) qx (by omega) hfx).1)
              have HST2 := Lib.hid (show s.tot (0 + 1) (dn 0 fun z => left z && !z.sameKey (.int .i64 x)) = s.tot (0 + 1) (dn 0 left) + qx.total by rw [dn_step]; exact SS.tot_add hok.out hfx (dn_left (k := 0) hlk))
              have u1 := HB.out (0 + 1) (by omega) (dn 0 left)
              have u2 := HB.out (0 + 1) (by omega) (dn 0 fun z => left z && !z.sameKey (.int .i64 x))
              rw [HST2.out] at u2
              have u3 : s.tot (0 + 1) (dn 0 left) ≤ 9223372036854775807 := by omega
              have u4 : s.tot (0 + 1) (dn 0 left) + qx.total ≤ 9223372036854775807 := by omega
              have u5 : 0 ≤ s.tot (0 + 1) (dn 0 left) + qx.total := by omega
              have HRG1 := Lib.hid hrg1
              have hen' : (Instr.entry (.pointer (some ⟨wo.heap.size, 0, none⟩))).run Tryz.prog w1 = .ok (.tuple #[.int .i64 x, .pointer (some ⟨L.pb 0 (some x), 0, none⟩)]) w1 := hen
              clear hkey hlk hv hat hrg1 hg1 hs1 hen u2 hfx
              generalize s.tot (0 + 1) (dn 0 left) = T1 at *
              generalize qx.total = qxt at *
              go_wp2_with (go_at_call 77; refine HPX.out.mono ?_; rintro e w' ⟨rfl, rfl⟩)
              go_roundw
              case rel => exact ⟨_, cnt1, HRG1.out, by rw [HST2.out], HL3.out, HB3.out⟩
              case measure => rw [HRG1.out.left_eq, HRG.out.left_eq]; omega
        · obtain rfl : p1 = .pointer (some ⟨L.bb 1, 0, none⟩) := P1.out.trans E.out
          have ix : ∀ wx, (Instr.index 106 (.agg #[p0, .pointer (some ⟨L.bb 1, 0, none⟩), p2]) (.int .i64 1)).run Tryz.prog wx = .ok (.pointer (some ⟨L.bb 1, 0, none⟩)) wx := fun wx => idx3 p0 (.pointer (some ⟨L.bb 1, 0, none⟩)) p2 1 _ rfl wx
          go_wp2_with (first
            | (go_at_call 77; refine HP.out.mono ?_; rintro e w' ⟨rfl, rfl⟩)
            | (at_range; refine wpList_range_own _ rfl _ 120 rfl 3 119 keyI Tryz.underlying120 blkElem (L.wm 1) m D rfl HD0.out ?_; intro w0 hrg0 hg0 hs0; have HRG0 := Lib.hid hrg0; have HL0 := Lib.hid (HL.out.grown hg0 (fun b hb => by cases hb)); have HB0 := Lib.hid (HBl.out.grown hg0 HBl.out.size (fun b hb => by cases hb)); clear hrg0 hg0))
          go_frame
          go_loopw [3] (fun t wx => ∃ left cnt, wx.ranges Tryz.prog 3 blkElem (L.wm 1) wo.heap.size m D left cnt ∧ t = .int .i64 (s.tot (1 + 1) (dn 1 left)) ∧ StakesL sb L m s wx ∧ Below w.heap.size w wx) (fun _ wx => wx.rangeLeft (L.wm 1) wo.heap.size)
          case atStart => exact ⟨_, _, HRG0.out, by rw [HST.out], HL0.out, HB0.out⟩
          case round =>
            obtain ⟨left, cnt, hrg, rfl, hL2, hb2⟩ := hrel
            have HRG := Lib.hid hrg; have HL2 := Lib.hid hL2; have HB2 := Lib.hid hb2
            clear hrg hL2 hb2 hs0
            go_wp2_with (at_next; refine wpList_next_ranges _ rfl _ rfl 3 keyI blkElem (Value.int .i64) blkV keyInt_inv blkV_inv (L.wm 1) wo.heap.size m D left cnt rfl HRG.out ?_ ?_)
            · intro _ hl0
              have HE := Lib.hid (dn_end (k := 1) hl0)
              go_wp2_with fail
              go_roundw
              case rel => exact ⟨1 + 1, by omega, rfl, by rw [HE.out], HL2.out, HB2.out⟩
              case measure => simp [intOf]
            · intro x c kl yd yp w1 cnt1 hkey hlk hv hat hrg1 hlt1 hg1 hs1 hen
              obtain ⟨rfl, hxw⟩ := keyInt_is hkey
              obtain ⟨qx, hfx, rfl⟩ := wait_entry HD1.out hv hat
              have HL3 := Lib.hid (HL2.out.grown hg1 (fun b hb => by cases hb; exact HR.out _ (Nat.le_trans HBl.out.size (Nat.le_refl _))))
              have HB3 := Lib.hid (HB2.out.grown hg1 HB2.out.size (fun b hb => by cases hb; exact HBl.out.size))
              have HPX := Lib.hid (pool_Total _ _ _ _ w1 (HL3.out.poo 1 (some x) qx (by omega) hfx).1)
              have HST2 := Lib.hid (show s.tot (1 + 1) (dn 1 fun z => left z && !z.sameKey (.int .i64 x)) = s.tot (1 + 1) (dn 1 left) + qx.total by rw [dn_step]; exact SS.tot_add hok.out hfx (dn_left (k := 1) hlk))
              have u1 := HB.out (1 + 1) (by omega) (dn 1 left)
              have u2 := HB.out (1 + 1) (by omega) (dn 1 fun z => left z && !z.sameKey (.int .i64 x))
              rw [HST2.out] at u2
              have u3 : s.tot (1 + 1) (dn 1 left) ≤ 9223372036854775807 := by omega
              have u4 : s.tot (1 + 1) (dn 1 left) + qx.total ≤ 9223372036854775807 := by omega
              have u5 : 0 ≤ s.tot (1 + 1) (dn 1 left) + qx.total := by omega
              have HRG1 := Lib.hid hrg1
              have hen' : (Instr.entry (.pointer (some ⟨wo.heap.size, 0, none⟩))).run Tryz.prog w1 = .ok (.tuple #[.int .i64 x, .pointer (some ⟨L.pb 1 (some x), 0, none⟩)]) w1 := hen
              clear hkey hlk hv hat hrg1 hg1 hs1 hen u2 hfx
              generalize s.tot (1 + 1) (dn 1 left) = T1 at *
              generalize qx.total = qxt at *
              go_wp2_with (go_at_call 77; refine HPX.out.mono ?_; rintro e w' ⟨rfl, rfl⟩)
              go_roundw
              case rel => exact ⟨_, cnt1, HRG1.out, by rw [HST2.out], HL3.out, HB3.out⟩
              case measure => rw [HRG1.out.left_eq, HRG.out.left_eq]; omega
        · obtain rfl : p2 = .pointer (some ⟨L.bb 2, 0, none⟩) := P2.out.trans E.out
          have ix : ∀ wx, (Instr.index 106 (.agg #[p0, p1, .pointer (some ⟨L.bb 2, 0, none⟩)]) (.int .i64 2)).run Tryz.prog wx = .ok (.pointer (some ⟨L.bb 2, 0, none⟩)) wx := fun wx => idx3 p0 p1 (.pointer (some ⟨L.bb 2, 0, none⟩)) 2 _ rfl wx
          go_wp2_with (first
            | (go_at_call 77; refine HP.out.mono ?_; rintro e w' ⟨rfl, rfl⟩)
            | (at_range; refine wpList_range_own _ rfl _ 120 rfl 3 119 keyI Tryz.underlying120 blkElem (L.wm 2) m D rfl HD0.out ?_; intro w0 hrg0 hg0 hs0; have HRG0 := Lib.hid hrg0; have HL0 := Lib.hid (HL.out.grown hg0 (fun b hb => by cases hb)); have HB0 := Lib.hid (HBl.out.grown hg0 HBl.out.size (fun b hb => by cases hb)); clear hrg0 hg0))
          go_frame
          go_loopw [3] (fun t wx => ∃ left cnt, wx.ranges Tryz.prog 3 blkElem (L.wm 2) wo.heap.size m D left cnt ∧ t = .int .i64 (s.tot (2 + 1) (dn 2 left)) ∧ StakesL sb L m s wx ∧ Below w.heap.size w wx) (fun _ wx => wx.rangeLeft (L.wm 2) wo.heap.size)
          case atStart => exact ⟨_, _, HRG0.out, by rw [HST.out], HL0.out, HB0.out⟩
          case round =>
            obtain ⟨left, cnt, hrg, rfl, hL2, hb2⟩ := hrel
            have HRG := Lib.hid hrg; have HL2 := Lib.hid hL2; have HB2 := Lib.hid hb2
            clear hrg hL2 hb2 hs0
            go_wp2_with (at_next; refine wpList_next_ranges _ rfl _ rfl 3 keyI blkElem (Value.int .i64) blkV keyInt_inv blkV_inv (L.wm 2) wo.heap.size m D left cnt rfl HRG.out ?_ ?_)
            · intro _ hl0
              have HE := Lib.hid (dn_end (k := 2) hl0)
              go_wp2_with fail
              go_roundw
              case rel => exact ⟨2 + 1, by omega, rfl, by rw [HE.out], HL2.out, HB2.out⟩
              case measure => simp [intOf]
            · intro x c kl yd yp w1 cnt1 hkey hlk hv hat hrg1 hlt1 hg1 hs1 hen
              obtain ⟨rfl, hxw⟩ := keyInt_is hkey
              obtain ⟨qx, hfx, rfl⟩ := wait_entry HD1.out hv hat
              have HL3 := Lib.hid (HL2.out.grown hg1 (fun b hb => by cases hb; exact HR.out _ (Nat.le_trans HBl.out.size (Nat.le_refl _))))
              have HB3 := Lib.hid (HB2.out.grown hg1 HB2.out.size (fun b hb => by cases hb; exact HBl.out.size))
              have HPX := Lib.hid (pool_Total _ _ _ _ w1 (HL3.out.poo 2 (some x) qx (by omega) hfx).1)
              have HST2 := Lib.hid (show s.tot (2 + 1) (dn 2 fun z => left z && !z.sameKey (.int .i64 x)) = s.tot (2 + 1) (dn 2 left) + qx.total by rw [dn_step]; exact SS.tot_add hok.out hfx (dn_left (k := 2) hlk))
              have u1 := HB.out (2 + 1) (by omega) (dn 2 left)
              have u2 := HB.out (2 + 1) (by omega) (dn 2 fun z => left z && !z.sameKey (.int .i64 x))
              rw [HST2.out] at u2
              have u3 : s.tot (2 + 1) (dn 2 left) ≤ 9223372036854775807 := by omega
              have u4 : s.tot (2 + 1) (dn 2 left) + qx.total ≤ 9223372036854775807 := by omega
              have u5 : 0 ≤ s.tot (2 + 1) (dn 2 left) + qx.total := by omega
              have HRG1 := Lib.hid hrg1
              have hen' : (Instr.entry (.pointer (some ⟨wo.heap.size, 0, none⟩))).run Tryz.prog w1 = .ok (.tuple #[.int .i64 x, .pointer (some ⟨L.pb 2 (some x), 0, none⟩)]) w1 := hen
              clear hkey hlk hv hat hrg1 hg1 hs1 hen u2 hfx
              generalize s.tot (2 + 1) (dn 2 left) = T1 at *
              generalize qx.total = qxt at *
              go_wp2_with (go_at_call 77; refine HPX.out.mono ?_; rintro e w' ⟨rfl, rfl⟩)
              go_roundw
              case rel => exact ⟨_, cnt1, HRG1.out, by rw [HST2.out], HL3.out, HB3.out⟩
              case measure => rw [HRG1.out.left_eq, HRG.out.left_eq]; omega
    · obtain rfl : k = 3 := by omega
      go_wp2_with fail
      go_ret
      exact ⟨by rw [HT3.out]; rfl, HBl.out⟩
end Go.Proofs.YtajnfkmkombajacGreatDoor
namespace Go.Proofs.YtajnfkmkombajacGreatDoor
open Go.RowKit

theorem Errs.keep {A : Nat → Addr} {S : List Nat} {w w' : World} {F : Nat → Prop} (h : Errs A S w) (k : Keep F w w') (hF : ∀ c ∈ S, ¬ F (gE c)) : Errs A S w' :=
  ⟨fun c hc => by rw [k.cell (p := ⟨gE c, 0, none⟩) (World.block_lt_of_cell? w _ (h.cell c hc)) (hF c hc)]; exact h.cell c hc⟩
theorem Errs.lt {A : Nat → Addr} {S : List Nat} {w : World} (h : Errs A S w) {c : Nat} (hc : c ∈ S) : gE c < w.heap.size := World.block_lt_of_cell? w _ (h.cell c hc)
end Go.Proofs.YtajnfkmkombajacGreatDoor
