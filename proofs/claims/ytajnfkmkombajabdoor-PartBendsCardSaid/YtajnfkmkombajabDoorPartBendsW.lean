/- The walk of PartBends. -/
import Derived.Test.YtajnfkmkombajabDoorParted
import Derived.Test.YtajnfkmkombajabDoorBend3
import Derived.Test.YtajnfkmkombajabDoorBendFault
import Derived.Test.YtajnfkmkombajabDoorRefBend
import Derived.Test.YtajnfkmkombajabDoorAppP
import Derived.Test.YtajnfkmkombajabDoorFaulted1
import Derived.Deep.RegionHeld3
set_option linter.unusedVariables false
set_option linter.unusedSimpArgs false
namespace Go.Proofs.YtajnfkmkombajabDoor
open Go.RowKit

theorem checkF_le (l : List (Int × Int)) : (checkF l).1 ≤ 10 ∧ ((checkF l).2 ≠ -1 → (checkF l).1 ≠ 0) := by
  refine ⟨?_, fun h h0 => h (by rw [checkF_zero h0])⟩
  have : ∀ (r : List (Int × Int)) (i : Nat) (o : Option Int), (chk i o r).1 ≤ 10 := by
    intro r
    induction r with
    | nil => intro i o; cases o <;> simp [chk]
    | cons p r ih =>
      intro i o
      cases o with
      | none => simp only [chk]; split; simp; exact ih _ _
      | some x => simp only [chk]; split; simp; split; simp; exact ih _ _
  unfold checkF
  split
  · simp
  · exact this _ _ _
theorem bendF_le (l : List (Int × Int)) (x : Int) : (bendF l x).1 ≤ 10 ∧ ((bendF l x).2 ≠ -1 → (bendF l x).1 ≠ 0) := by
  unfold bendF
  split
  · exact checkF_le l
  · split
    · exact ⟨by simp, fun h => absurd rfl h⟩
    · exact ⟨by simp, fun h => absurd rfl h⟩

/-- the fault's own box, the bend's error -/
structure PB (A : Nat → Addr) (W : World) (g : Nat) (c : Nat) (at_ : Int) (v : Value) (f : Nat × Int) (w : World) : Prop where
  below : Below W.heap.size W w
  nw : W.heap.size ≤ g
  lt : g < w.heap.size
  c0 : w.cell? ⟨g, 0, none⟩ = some (.int .i64 c)
  c1 : w.cell? ⟨g, 1, none⟩ = some (.int .i64 at_)
  f0 : w.frozen? ⟨g, 0, none⟩ = false
  f1 : w.frozen? ⟨g, 1, none⟩ = false
  err : ErrIs A W w v f
theorem PB.next {A : Nat → Addr} {W : World} {g c : Nat} {at_ : Int} {v : Value} {f : Nat × Int} {w w' : World} (h : PB A W g c at_ v f w) (k : Below w.heap.size w w') : PB A W g c at_ v f w' :=
  ⟨btrans h.below k, h.nw, Nat.lt_of_lt_of_le h.lt k.size, by rw [k.cell (p := ⟨g, 0, none⟩) h.lt]; exact h.c0, by rw [k.cell (p := ⟨g, 1, none⟩) h.lt]; exact h.c1,
   by rw [k.frozen (p := ⟨g, 0, none⟩) h.lt]; exact h.f0, by rw [k.frozen (p := ⟨g, 1, none⟩) h.lt]; exact h.f1, h.err.later fun b o _ hb => k.cell (p := ⟨b, o, none⟩) hb⟩
theorem PB.drewN {A : Nat → Addr} {W : World} {g c : Nat} {at_ : Int} {v : Value} {f : Nat × Int} {w : World} (h : PB A W g c at_ v f w) (n : Nat) : PB A W g c at_ v f (w.drewN n) :=
  h.next ((Below.refl _ _).drewN n)

set_option maxRecDepth 8000 in
set_option maxHeartbeats 1000000 in
theorem bends_walk (A : Nat → Addr) (ao : Option Addr) (len cap : Nat) (l : List (Int × Int)) (x : Int) (w : World) (hS : Sents A w) (R : RdP w ao len cap l) (hl : len ≤ 30) :
    Calls Tryd.prog 8 #[.slice ao len cap, .int .i64 x] w fun e w' => e = .returned (.bool true) ∧ Below w.heap.size w w' := by
  have HS := Lib.hid hS; clear hS
  have HR := Lib.hid R; clear R
  have m2 : (2 : Nat) ∈ [1, 2, 3, 4, 5, 6, 7, 8, 9, 10] := by decide
  have m3 : (3 : Nat) ∈ [1, 2, 3, 4, 5, 6, 7, 8, 9, 10] := by decide
  obtain ⟨i0, hi, hz0, hz1, hz2⟩ := info_parts (show (Tryd.prog.info? 148).map (fun i => (i.zero, i.size, i.bytes)) = some (some (.agg #[.int .i64 0, .int .i64 0]), 2, 16) by kernel_rfl)
  have d1 : decide ((30 : Int) < (len : Int)) = false := by simp; omega
  go_enter Tryd.func8, Tryd.ntmps8
  go_wp2_with fail
  refine (law_parted A _ _ HS.out.errs m2).mono ?_
  rintro e w' ⟨rfl, d0, rfl⟩
  go_wp2_with (at_builtin; refine wpList_append_points _ rfl _ _ 87 rfl 148 i0 _ Tryd.underlying87 hi hz0 hz1 hz2 rfl rfl ao len cap l rfl (HR.out.below ((Below.refl w.heap.size w).drewN _)) (by omega) ?_)
  intro a1 cap1 w1 R1 hb1
  have B1 := Lib.hid (show Below w.heap.size w w1 from btrans ((Below.refl w.heap.size w).drewN _) hb1)
  have HR1 := Lib.hid R1
  clear R1 hb1
  go_wp2_with fail
  refine (part_Bend A _ a1 len cap1 l x _ HR1.out (HS.out.below B1.out).errs m2 m3).mono ?_
  rintro e w2 ⟨v, rfl, hv, hb2⟩
  have hv2 : ErrIs A w w2 v (bendF l x) := hv.since B1.out.size
  have B2 := Lib.hid (btrans B1.out hb2)
  have HV := Lib.hid hv2
  clear hv hb2 hv2
  generalize hN : (if (bendF l x).1 = 0 then bendV l x else 0) = N at *
  have HN := Lib.hid hN; clear hN
  go_wp2_with fail
  refine (ref_BendFault ao len cap l _ (HR.out.below B2.out)).mono ?_
  rintro e w3 ⟨rfl, hb3⟩
  have B3 := Lib.hid (btrans B2.out hb3)
  have HV3 := Lib.hid (HV.out.later (w2 := w3) fun b o _ hb => hb3.cell (p := ⟨b, o, none⟩) hb)
  clear hb3
  have hcl := checkF_le l
  have HCL := Lib.hid hcl; clear hcl
  have HBL := Lib.hid (bendF_le l x)
  have HC0 := Lib.hid (fun (hc : (checkF l).1 ≠ 0) => bendF_check (x := x) hc)
  have HC1 := Lib.hid (fun (hc : (checkF l).1 = 0) => checkF_zero hc)
  have HC2 := Lib.hid (fun (hc : (checkF l).1 = 0) (hx : x < 0 ∨ 1000000 < x) => bendF_place hc hx)
  have HC3 := Lib.hid (show (checkF l).1 = 0 → ¬ (x < 0 ∨ 1000000 < x) → bendF l x = (0, -1) from fun hc hx => by unfold bendF; rw [if_neg (by simp [hc]), if_neg hx])
  have HBO := Lib.hid (fun wx b off (he : ao = some ⟨b, off, none⟩) (hbx : Below w.heap.size w wx) (hc : (checkF l).1 = 0) (h0 : 0 ≤ x) (h1 : x ≤ 1000000) => ref_BendOf b off len cap l x wx (by have := HR.out.below hbx; rw [he] at this; exact this) hc h0 h1)
  go_wp2_with fail
  have P0 := Lib.hid (show PB A w w3.heap.size (checkF l).1 (checkF l).2 v (bendF l x) (w3.alloc (.cells #[.int .i64 (checkF l).1, .int .i64 (checkF l).2] 72)) from
    ⟨B3.out.alloc B3.out.size _, B3.out.size, by simp, by simp [go_sem], by simp [go_sem], by simp [go_sem], by simp [go_sem], HV3.out.later fun b o _ hb => by simp [go_sem, hb]⟩)
  generalize w3.alloc (.cells #[.int .i64 (checkF l).1, .int .i64 (checkF l).2] 72) = w4 at *
  generalize w3.heap.size = g at *
  clear B3 HV3 HV B2 HR1 B1
  go_region_held3 (fun w' => w'.cell? ⟨g, 0, none⟩ = some (.int .i64 (checkF l).1) ∧ w'.cell? ⟨g, 1, none⟩ = some (.int .i64 (checkF l).2)) (first | exact ⟨P3.out.c0, P3.out.c1⟩ | exact ⟨P2.out.c0, P2.out.c1⟩ | exact ⟨P1.out.c0, P1.out.c1⟩ | exact ⟨P0.out.c0, P0.out.c1⟩)
    (first
      | (refine step_append_points (by rfl) _ _ 87 (by rfl) 148 i0 _ Tryd.underlying87 hi hz0 hz1 hz2 rfl (by rfl) ao len cap l (by rfl) (HR.out.below (P0.out.drewN 1).below) (by omega) ?_; intro a2 cap2 w5 R2 hb5; have P1 := Lib.hid ((P0.out.drewN 1).next hb5); have HR2 := Lib.hid R2)
      | (go_at_call 60; refine (part_Check A _ a2 len cap2 l _ HR2.out (HS.out.below P1.out.below).errs m2 m3).mono ?_; rintro e w6 ⟨v2, rfl, hv2, hb6⟩; have P2 := Lib.hid (P1.out.next hb6); have HV2 := Lib.hid hv2)
      | (go_at_call 46; refine (law1_faulted A v2 (checkF l) _ _ (HS.out.below P2.out.below) HV2.out HCL.out.1 HCL.out.2).mono ?_; rintro e w7 ⟨rfl, hb7⟩; have P3 := Lib.hid (P2.out.next hb7)))
  clear P0 P1 P2 HV2 HR2 R2 hb5 hv2 hb6 hb7
  by_cases hc : (checkF l).1 = 0
  · have hcc := HC1.out hc
    have c0 := P3.out.c0; have c1 := P3.out.c1; have f0 := P3.out.f0; have f1 := P3.out.f1
    have hgl := P3.out.lt
    rw [hcc] at c0 c1
    have HC := Lib.hid hc; clear hc hcc
    by_cases hx : x < 0 ∨ 1000000 < x
    · have hbf := HC2.out HC.out hx
      have hv2 : v = ev A 2 := by
        rcases P3.out.err with ⟨_, h⟩ | ⟨h, _⟩
        · rw [h, hbf]
        · rw [hbf] at h; simp at h
      have hN : N = 0 := by rw [← HN.out, hbf]; rfl
      subst hv2 hN
      have hw : x < 0 ∨ (0 ≤ x ∧ 1000000 < x) := by omega
      clear hbf hx
      rcases hw with h0 | ⟨h0, h1⟩
      all_goals
        go_wp2_with fail
        refine (ref_Bare _ _).mono ?_
        rintro e w8 ⟨rfl, rfl⟩
        go_wp2_with fail
        have BW := (((P3.out.below.setCell (p := ⟨g, 0, none⟩) P3.out.nw (.int .i64 2)).setCell (p := ⟨g, 1, none⟩) P3.out.nw (.int .i64 (-1))).alloc (by have := P3.out.below.size; simpa [World.setCell] using this) (.cells #[.int .i64 2, .int .i64 (-1)] 72))
        have HBW := Lib.hid BW; clear BW
        refine (law1_faulted A (ev A 2) (2, -1) w _ (HS.out.below HBW.out) (.inl ⟨rfl, rfl⟩) (by decide) (fun h => absurd rfl h)).mono ?_
        rintro e w9 ⟨rfl, hb9⟩
        have HB9 := Lib.hid (btrans HBW.out hb9); clear hb9
        go_wp2_with fail
        go_ret
        exact ⟨rfl, HB9.out⟩
    · have hbf := HC3.out HC.out hx
      have hv2 : v = .nilIface := by
        rcases P3.out.err with ⟨_, h⟩ | ⟨h, _⟩
        · rw [h, hbf]; rfl
        · rw [hbf] at h; simp at h
      have hN : bendV l x = N := by rw [← HN.out, hbf]; rfl
      have HN2 := Lib.hid hN
      have h0 : 0 ≤ x := by omega
      have h1 : x ≤ 1000000 := by omega
      obtain ⟨b, off, ha⟩ : ∃ b off, ao = some ⟨b, off, none⟩ := by
        have := (check_ok HC.out).two
        rcases HR.out.split with ⟨_, h⟩ | ⟨_, b, off, h, _⟩
        · rw [h] at this; simp at this
        · exact ⟨b, off, h⟩
      subst hv2
      have HO := Lib.hid (HBO.out w7 b off ha P3.out.below HC.out h0 h1)
      rw [hN, ← ha] at HO
      have Ha := Lib.hid ha
      have hNN : (N == N) = true := beq_self_eq_true _
      clear hbf hx hN ha HN HN2
      go_wp2_with (go_at_call 62; refine HO.out.mono ?_; rintro e w9 ⟨rfl, hb9⟩; have HB9 := Lib.hid (btrans P3.out.below hb9); clear hb9)
      go_ret
      exact ⟨rfl, HB9.out⟩
  · have hbf := HC0.out hc
    have hN : N = 0 := by rw [← HN.out, hbf, if_neg hc]
    subst hN
    have HV := Lib.hid P3.out.err
    rw [hbf] at HV
    have c0 := P3.out.c0; have c1 := P3.out.c1
    have hgl := P3.out.lt
    have e1 : (((checkF l).1 : Int) == 0) = false := by simp; exact hc
    have e2 : decide (0 < (checkF l).1) = true := by simp; omega
    have e3 : decide ((0 : Int) < ((checkF l).1 : Int)) = true := by simp; omega
    clear hbf hc
    go_wp2_with fail
    refine (law1_faulted A v (checkF l) w _ (HS.out.below P3.out.below) HV.out HCL.out.1 HCL.out.2).mono ?_
    rintro e w9 ⟨rfl, hb9⟩
    have HB9 := Lib.hid (btrans P3.out.below hb9); clear hb9
    go_wp2_with fail
    go_ret
    exact ⟨rfl, HB9.out⟩

theorem bends_all (A : Nat → Addr) (ao : Option Addr) (len cap : Nat) (l : List (Int × Int)) (x : Int) (w : World) (hS : Sents A w) (R : RdP w ao len cap l) :
    Calls Tryd.prog 8 #[.slice ao len cap, .int .i64 x] w fun e w' => e = .returned (.bool true) ∧ Below w.heap.size w w' := by
  by_cases hl : len ≤ 30
  · exact bends_walk A ao len cap l x w hS R hl
  · have HS := Lib.hid hS; clear hS R
    have m2 : (2 : Nat) ∈ [1, 2, 3, 4, 5, 6, 7, 8, 9, 10] := by decide
    have d1 : decide ((30 : Int) < (len : Int)) = true := by simp; omega
    clear hl
    go_enter Tryd.func8, Tryd.ntmps8
    go_wp2_with fail
    refine (law_parted A _ _ HS.out.errs m2).mono ?_
    rintro e w' ⟨rfl, d0, rfl⟩
    go_wp2_with fail
    go_ret
    exact ⟨rfl, (Below.refl _ _).drewN _⟩
end Go.Proofs.YtajnfkmkombajabDoor
