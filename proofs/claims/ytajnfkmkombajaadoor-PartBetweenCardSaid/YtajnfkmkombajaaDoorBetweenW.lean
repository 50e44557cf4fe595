/- The walk of PartBetween. -/
import Derived.Test.YtajnfkmkombajaaDoorPlBetween
import Derived.Test.YtajnfkmkombajaaDoorBend2
import Derived.Test.YtajnfkmkombajaaDoorBendFault
import Derived.Test.YtajnfkmkombajaaDoorPartBackW
import Derived.Deep.RegionWith
namespace Go.Proofs.YtajnfkmkombajaaDoor
open Go.RowKit

@[go_sem] theorem fault_code (a b : Value) (w : World) : (Instr.field 51 (.agg #[a, b]) 0).run Tryd.prog w = .ok a w := by kernel_rfl
@[go_sem] theorem fault_at (a b : Value) (w : World) : (Instr.field 51 (.agg #[a, b]) 1).run Tryd.prog w = .ok b w := by kernel_rfl

theorem bend_fine (A : Nat → Addr) (S : List Nat) (b off len cap : Nat) (l : List (Int × Int)) (x : Int) (w : World) (R : RdP w (some ⟨b, off, none⟩) len cap l) (hE : Errs A S w) (h2 : 2 ∈ S) (h3 : 3 ∈ S)
    (hf : (checkF l).1 = 0) (h0 : 0 ≤ x) (h1 : x ≤ 1000000) :
    Calls Tryd.prog 34 #[.slice (some ⟨b, off, none⟩) len cap, .int .i64 x] w fun e w' => e = .returned (.tuple #[.int .i64 (bendV l x), .nilIface]) ∧ Below w.heap.size w w' :=
  (bend_ok A S _ _ _ _ _ x w R hE h2 h3 hf h0 h1).mono fun e w' ⟨v, he, hv, hb⟩ => by
    have e0 : bendF l x = (0, -1) := by unfold bendF; rw [if_neg (by simp [hf]), if_neg (by omega)]
    rcases hv with ⟨_, hv⟩ | ⟨hv, _⟩
    · rw [e0] at hv he
      exact ⟨by rw [he, hv]; rfl, hb⟩
    · rw [e0] at hv; simp at hv

set_option maxHeartbeats 1000000 in
set_option maxRecDepth 8000 in
/-- too long, or no bend -/
theorem between_no (A : Nat → Addr) (S : List Nat) (ao : Option Addr) (len cap : Nat) (l : List (Int × Int)) (kz x : Int) (w : World) (R : RdP w ao len cap l) (hE : Errs A S w) (h2 : 2 ∈ S)
    (h : 30 < len ∨ (checkF l).1 ≠ 0) :
    Calls Tryd.prog 6 #[.slice ao len cap, .int .i64 kz, .int .i64 x] w fun e w' => e = .returned (.bool true) ∧ Below w.heap.size w w' := by
  have HE := Lib.hid hE; clear hE
  have HR := Lib.hid R; clear R
  by_cases hl : 30 < len
  · have e1 : decide ((30 : Int) < (len : Int)) = true := by simp; omega
    clear h hl
    go_enter Tryd.func6, Tryd.ntmps6
    go_wp2_with (go_at_call 30; refine (law_parted A S _ HE.out h2).mono ?_; rintro e w1 ⟨rfl, kd, hkd⟩; subst hkd)
    go_ret
    exact ⟨rfl, Below.drewN (Below.refl _ _) _⟩
  · have e1 : decide ((30 : Int) < (len : Int)) = false := by simp; omega
    have hc := h.resolve_left hl
    have e2 : decide (0 < (checkF l).1) = true := by simp; omega
    clear h hl hc
    generalize hF : (checkF l).1 = F at *
    generalize hG : (checkF l).2 = G at *
    go_enter Tryd.func6, Tryd.ntmps6
    go_wp2_with (first
      | (go_at_call 30; refine (law_parted A S _ HE.out h2).mono ?_; rintro e w1 ⟨rfl, kd, hkd⟩; subst hkd)
      | (go_at_call 33; refine (ref_BendFault _ _ _ _ _ (HR.out.below (Below.drewN (Below.refl _ _) _))).mono ?_; rintro e w2 ⟨rfl, hb2⟩; replace hb2 := btrans (a := w) (Below.drewN (Below.refl _ _) _) hb2))
    go_ret
    exact ⟨rfl, by first | assumption | exact Below.drewN (by assumption) _⟩

set_option maxHeartbeats 1000000 in
set_option maxRecDepth 8000 in
/-- no part of the bend is asked for -/
theorem between_off (A : Nat → Addr) (S : List Nat) (ao : Option Addr) (len cap : Nat) (l : List (Int × Int)) (kz x : Int) (w : World) (R : RdP w ao len cap l) (hE : Errs A S w) (h2 : 2 ∈ S)
    (hl : len ≤ 30) (hc : (checkF l).1 = 0) (hk : kz < 1 ∨ (1 ≤ kz ∧ (len : Int) ≤ kz)) :
    Calls Tryd.prog 6 #[.slice ao len cap, .int .i64 kz, .int .i64 x] w fun e w' => e = .returned (.bool true) ∧ Below w.heap.size w w' := by
  have HE := Lib.hid hE; clear hE
  have HR := Lib.hid R; clear R
  have e1 : decide ((30 : Int) < (len : Int)) = false := by simp; omega
  have e3 : checkF l = (0, -1) := checkF_zero hc
  have hF : (checkF l).1 = 0 := hc
  have hG : (checkF l).2 = -1 := by rw [e3]
  clear e3 hc
  rcases hk with hk | ⟨hk, hk2⟩
  · have d1 : decide (kz < 1) = true := decide_eq_true hk
    clear hk
    go_enter Tryd.func6, Tryd.ntmps6
    go_wp2_with (first
      | (go_at_call 30; refine (law_parted A S _ HE.out h2).mono ?_; rintro e w1 ⟨rfl, kd, hkd⟩; subst hkd)
      | (go_at_call 33; refine (ref_BendFault _ _ _ _ _ (HR.out.below (Below.drewN (Below.refl _ _) _))).mono ?_; rintro e w2 ⟨rfl, hb2⟩; replace hb2 := btrans (a := w) (Below.drewN (Below.refl _ _) _) hb2))
    go_ret
    exact ⟨rfl, by first | assumption | exact Below.drewN (by assumption) _⟩
  · have d1 : decide (kz < 1) = false := decide_eq_false (by omega)
    have d2 : decide ((len : Int) ≤ kz) = true := decide_eq_true hk2
    go_enter Tryd.func6, Tryd.ntmps6
    go_wp2_with (first
      | (go_at_call 30; refine (law_parted A S _ HE.out h2).mono ?_; rintro e w1 ⟨rfl, kd, hkd⟩; subst hkd)
      | (go_at_call 33; refine (ref_BendFault _ _ _ _ _ (HR.out.below (Below.drewN (Below.refl _ _) _))).mono ?_; rintro e w2 ⟨rfl, hb2⟩; replace hb2 := btrans (a := w) (Below.drewN (Below.refl _ _) _) hb2))
    go_ret
    exact ⟨rfl, by first | assumption | exact Below.drewN (by assumption) _⟩

/-- the two points' own blocks stand -/
structure PQ (w w2 : World) (py qy : Int) (W : World) : Prop where
  below : Below w.heap.size w W
  p : W.cell? ⟨w2.heap.size, 1, none⟩ = some (.int .i64 py)
  q : W.cell? ⟨w2.heap.size + 1, 1, none⟩ = some (.int .i64 qy)
theorem PQ.next {w w2 W W' : World} {py qy : Int} (h : PQ w w2 py qy W) (hb : Below W.heap.size W W') : PQ w w2 py qy W' :=
  ⟨btrans h.below hb, by rw [hb.cell (p := ⟨w2.heap.size, 1, none⟩) (World.block_lt_of_cell? W _ h.p)]; exact h.p, by rw [hb.cell (p := ⟨w2.heap.size + 1, 1, none⟩) (World.block_lt_of_cell? W _ h.q)]; exact h.q⟩
theorem PQ.drewN {w w2 W : World} {py qy : Int} (h : PQ w w2 py qy W) (n : Nat) : PQ w w2 py qy (W.drewN n) := ⟨h.below.drewN n, h.p, h.q⟩
theorem PQ.first {w w2 : World} {px py qx qy : Int} {t : TypeId} (hb : Below w.heap.size w w2) : PQ w w2 py qy ((w2.alloc (.cells #[.int .i64 px, .int .i64 py] t)).alloc (.cells #[.int .i64 qx, .int .i64 qy] t)) :=
  ⟨(hb.alloc hb.size _).alloc (by have := hb.size; simp; omega) _, by simp [go_sem], by simp [go_sem]⟩

set_option maxHeartbeats 2000000 in
set_option maxRecDepth 8000 in
/-- a part of the bend is asked for -/
theorem between_at (A : Nat → Addr) (S : List Nat) (b off len cap : Nat) (l : List (Int × Int)) (k : Nat) (x : Int) (w : World) (R : RdP w (some ⟨b, off, none⟩) len cap l) (hE : Errs A S w) (h2 : 2 ∈ S) (h3 : 3 ∈ S)
    (hc : (checkF l).1 = 0) (hk0 : 1 ≤ k) (hk : k < len) :
    Calls Tryd.prog 6 #[.slice (some ⟨b, off, none⟩) len cap, .int .i64 k, .int .i64 x] w fun e w' => e = .returned (.bool true) ∧ Below w.heap.size w w' := by
  have B := check_ok hc
  have hlen8 : len ≤ 8 := by rw [← R.size]; exact B.eight
  have e1 : decide ((30 : Int) < (len : Int)) = false := by simp; omega
  have e3 : checkF l = (0, -1) := checkF_zero hc
  have hF : (checkF l).1 = 0 := hc
  have hG : (checkF l).2 = -1 := by rw [e3]
  have HC := Lib.hid hc
  obtain ⟨_, b', off', ha, hb, hcell⟩ := (R.split).resolve_left (by omega)
  cases ha
  obtain ⟨c1, c2⟩ := hcell (k - 1) (by omega)
  obtain ⟨d1, d2⟩ := hcell k hk
  clear hcell
  have hkk : k - 1 + 1 = k := by omega
  have hsz := R.size
  have gp := B.good (k - 1) (by omega)
  have gq := B.good k (by omega)
  have HBt := Lib.hid (between B (k := k - 1) (by omega) (x := x))
  rw [hkk] at HBt
  have HR := Lib.hid R; clear R
  have HE := Lib.hid hE; clear hE
  have HB := Lib.hid B; clear B
  obtain ⟨p, hp⟩ : ∃ p, p = l.getD (k - 1) (0, 0) := ⟨_, rfl⟩
  obtain ⟨q, hq⟩ : ∃ q, q = l.getD k (0, 0) := ⟨_, rfl⟩
  rw [← hp] at c1 c2 HBt gp
  rw [← hq] at d1 d2 HBt gq
  obtain ⟨px, py⟩ := p
  obtain ⟨qx, qy⟩ := q
  simp only [ptBad, not_or, Int.not_lt] at gp gq
  simp only at c1 c2 d1 d2 HBt
  clear hp hq e3 hc hkk hsz
  obtain ⟨gp1, gp2, gp3, gp4⟩ := gp
  obtain ⟨gq1, gq2, gq3, gq4⟩ := gq
  have j0 : decide ((k : Int) < 1) = false := by simp; omega
  have j1 : (0 : Int) ≤ (k : Int) - 1 := by omega
  have j2 : (k : Int) - 1 < (len : Int) := by omega
  have j3 : (k : Int) < (len : Int) := by omega
  by_cases hx1 : x < px
  · go_enter Tryd.func6, Tryd.ntmps6
    go_wp2_with (first
      | (go_at_call 30; refine (law_parted A S _ HE.out h2).mono ?_; rintro e w1 ⟨rfl, kd, hkd⟩; subst hkd)
      | (go_at_call 33; refine (ref_BendFault _ _ _ _ _ (HR.out.below (Below.drewN (Below.refl _ _) _))).mono ?_; rintro e w2 ⟨rfl, hb2⟩; replace hb2 := btrans (a := w) (Below.drewN (Below.refl _ _) _) hb2; have hbs : b < w2.heap.size := Nat.lt_of_lt_of_le hb hb2.size; rw [← hb2.cell (p := ⟨b, off + (k - 1) * 2, none⟩) hb] at c1; rw [← hb2.cell (p := ⟨b, off + (k - 1) * 2 + 1, none⟩) hb] at c2; rw [← hb2.cell (p := ⟨b, off + k * 2, none⟩) hb] at d1; rw [← hb2.cell (p := ⟨b, off + k * 2 + 1, none⟩) hb] at d2))
    go_ret
    exact ⟨rfl, by first | assumption | exact Below.drewN (by assumption) _⟩
  by_cases hx2 : qx ≤ x
  · go_enter Tryd.func6, Tryd.ntmps6
    go_wp2_with (first
      | (go_at_call 30; refine (law_parted A S _ HE.out h2).mono ?_; rintro e w1 ⟨rfl, kd, hkd⟩; subst hkd)
      | (go_at_call 33; refine (ref_BendFault _ _ _ _ _ (HR.out.below (Below.drewN (Below.refl _ _) _))).mono ?_; rintro e w2 ⟨rfl, hb2⟩; replace hb2 := btrans (a := w) (Below.drewN (Below.refl _ _) _) hb2; have hbs : b < w2.heap.size := Nat.lt_of_lt_of_le hb hb2.size; rw [← hb2.cell (p := ⟨b, off + (k - 1) * 2, none⟩) hb] at c1; rw [← hb2.cell (p := ⟨b, off + (k - 1) * 2 + 1, none⟩) hb] at c2; rw [← hb2.cell (p := ⟨b, off + k * 2, none⟩) hb] at d1; rw [← hb2.cell (p := ⟨b, off + k * 2 + 1, none⟩) hb] at d2))
    go_ret
    exact ⟨rfl, by first | assumption | exact Below.drewN (by assumption) _⟩
  obtain ⟨a0, up, dn⟩ := HBt.out (by omega) (by omega)
  have Hbend : Hid (∀ (y : Int) (w2 W : World), PQ w w2 py qy W → 0 ≤ y → y ≤ 1000000 → Calls Tryd.prog 34 #[.slice (some ⟨b, off, none⟩) len cap, .int .i64 y] W fun e w' => e = .returned (.tuple #[.int .i64 (bendV l y), .nilIface]) ∧ PQ w w2 py qy w') := fun y w2 W hW y0 y1 =>
    (bend_fine A S _ _ _ _ _ y W (HR.out.below hW.below) (HE.out.below hW.below) h2 h3 HC.out y0 y1).mono fun e w' ⟨he, hb'⟩ => ⟨he, hW.next hb'⟩
  have hA : bendV l px = py := a0
  generalize hBv : bendV l x = bx at *
  generalize hCv : bendV l (x + 1) = cx at *
  clear a0
  clear HBt
  clear HB
  by_cases hup : py ≤ qy
  · obtain ⟨u1, u2, u3⟩ := up hup
    clear up dn
    have hsx : IntKind.i64.wrap (x + 1) = x + 1 := IntWalk.i64_in _ ⟨by omega, by omega⟩
    go_enter Tryd.func6, Tryd.ntmps6
    go_wp2_with (first
      | (go_at_call 30; refine (law_parted A S _ HE.out h2).mono ?_; rintro e w1 ⟨rfl, kd, hkd⟩; subst hkd)
      | (go_at_call 33; refine (ref_BendFault _ _ _ _ _ (HR.out.below (Below.drewN (Below.refl _ _) _))).mono ?_; rintro e w2 ⟨rfl, hb2⟩; replace hb2 := btrans (a := w) (Below.drewN (Below.refl _ _) _) hb2; have hbs : b < w2.heap.size := Nat.lt_of_lt_of_le hb hb2.size; rw [← hb2.cell (p := ⟨b, off + (k - 1) * 2, none⟩) hb] at c1; rw [← hb2.cell (p := ⟨b, off + (k - 1) * 2 + 1, none⟩) hb] at c2; rw [← hb2.cell (p := ⟨b, off + k * 2, none⟩) hb] at d1; rw [← hb2.cell (p := ⟨b, off + k * 2 + 1, none⟩) hb] at d2)
      | (go_at_call 34; refine (Hbend.out _ w2 _ (by first | assumption | exact PQ.drewN (by assumption) _ | exact PQ.first hb2) (by omega) (by omega)).mono ?_; rintro e w3 ⟨rfl, hpq⟩; have p1 := hpq.p; have q1 := hpq.q))
    go_ret
    exact ⟨by simp [*], by first | exact PQ.below (by assumption) | exact Below.drewN (PQ.below (by assumption)) _⟩
  · obtain ⟨u1, u2, u3⟩ := dn (by omega)
    have hdn : qy < py := by omega
    clear up dn hup
    have hsx : IntKind.i64.wrap (x + 1) = x + 1 := IntWalk.i64_in _ ⟨by omega, by omega⟩
    go_enter Tryd.func6, Tryd.ntmps6
    go_wp2_with (first
      | (go_at_call 30; refine (law_parted A S _ HE.out h2).mono ?_; rintro e w1 ⟨rfl, kd, hkd⟩; subst hkd)
      | (go_at_call 33; refine (ref_BendFault _ _ _ _ _ (HR.out.below (Below.drewN (Below.refl _ _) _))).mono ?_; rintro e w2 ⟨rfl, hb2⟩; replace hb2 := btrans (a := w) (Below.drewN (Below.refl _ _) _) hb2; have hbs : b < w2.heap.size := Nat.lt_of_lt_of_le hb hb2.size; rw [← hb2.cell (p := ⟨b, off + (k - 1) * 2, none⟩) hb] at c1; rw [← hb2.cell (p := ⟨b, off + (k - 1) * 2 + 1, none⟩) hb] at c2; rw [← hb2.cell (p := ⟨b, off + k * 2, none⟩) hb] at d1; rw [← hb2.cell (p := ⟨b, off + k * 2 + 1, none⟩) hb] at d2)
      | (go_at_call 34; refine (Hbend.out _ w2 _ (by first | assumption | exact PQ.drewN (by assumption) _ | exact PQ.first hb2) (by omega) (by omega)).mono ?_; rintro e w3 ⟨rfl, hpq⟩; have p1 := hpq.p; have q1 := hpq.q))
    go_ret
    exact ⟨by simp [*], by first | exact PQ.below (by assumption) | exact Below.drewN (PQ.below (by assumption)) _⟩

theorem between_all (A : Nat → Addr) (S : List Nat) (ao : Option Addr) (len cap : Nat) (l : List (Int × Int)) (kz x : Int) (w : World) (R : RdP w ao len cap l) (hE : Errs A S w) (h2 : 2 ∈ S) (h3 : 3 ∈ S) :
    Calls Tryd.prog 6 #[.slice ao len cap, .int .i64 kz, .int .i64 x] w fun e w' => e = .returned (.bool true) ∧ Below w.heap.size w w' := by
  by_cases hl : 30 < len
  · exact between_no A S ao len cap l kz x w R hE h2 (.inl hl)
  by_cases hc : (checkF l).1 = 0
  · by_cases hk : kz < 1
    · exact between_off A S ao len cap l kz x w R hE h2 (by omega) hc (.inl hk)
    by_cases hk2 : (len : Int) ≤ kz
    · exact between_off A S ao len cap l kz x w R hE h2 (by omega) hc (.inr ⟨by omega, hk2⟩)
    obtain ⟨k, rfl⟩ : ∃ k : Nat, kz = (k : Int) := ⟨kz.toNat, by omega⟩
    obtain ⟨_, b, off, rfl, _, _⟩ := (R.split).resolve_left (by omega)
    exact between_at A S b off len cap l k x w R hE h2 h3 hc (by omega) (by omega)
  · exact between_no A S ao len cap l kz x w R hE h2 (.inr hc)
end Go.Proofs.YtajnfkmkombajaaDoor
