/- The walk of LotsNext. -/
import Derived.Test.YtajnfkmkombajaaDoorRefLots
import Derived.Test.YtajnfkmkombajaaDoorCoded1
import Derived.Deep.RegionWith
set_option linter.unusedVariables false
set_option linter.unusedSimpArgs false
namespace Go.Proofs.YtajnfkmkombajaaDoor
open Go.RowKit

theorem law_lotted (w : World) :
    Calls Tryd.prog 56 #[] w fun e w' => e = .returned (.bool true) ∧ Below w.heap.size w w' := by
  have h := lot_first
  have H := Lib.hid h; clear h
  go_enter Tryd.func56, Tryd.ntmps56
  go_wp2_with (first | (go_at_call 57; refine (lots_New _ _).mono ?_; rintro e w' ⟨rfl, rfl⟩) | (go_at_call 59; refine (lots_Next_new _ _).mono ?_; rintro e w' ⟨rfl, rfl⟩; rw [H.out]))
  go_ret
  exact ⟨rfl, (Below.refl _ _).alloc (Nat.le_refl _) _⟩

/-- both lots stand at one state -/
structure TwoLots (W : World) (bx bm st : Nat) (w : World) : Prop where
  below : Below W.heap.size W w
  x : LotsAt bx st w
  m : RLotsAt bm st w
  nx : W.heap.size ≤ bx
  nm : W.heap.size ≤ bm
  ne : bx ≠ bm
  lt : st < 18446744073709551616
theorem TwoLots.below' {W w w' : World} {bx bm st : Nat} (h : TwoLots W bx bm st w) (k : Below w.heap.size w w') : TwoLots W bx bm st w' :=
  ⟨btrans h.below k, RowAt.below h.x k (RowAt.lt h.x), RowAt.below h.m k (RowAt.lt h.m), h.nx, h.nm, h.ne, h.lt⟩

set_option maxRecDepth 8000 in
set_option maxHeartbeats 1000000 in
theorem next_walk (A : Nat → Addr) (s : Nat) (hs : s < 18446744073709551616) (ao : Option Addr) (len cap : Nat) (zs : List Int) (w : World) (hS : Sents A w) (R : RdI .i64 w ao len cap zs) (hl : len ≤ 100) :
    Calls Tryd.prog 11 #[.int .u64 s, .slice ao len cap] w fun e w' => e = .returned (.bool true) ∧ Below w.heap.size w w' := by
  have HS := Lib.hid hS; have HR := Lib.hid R
  have d1 : decide ((100 : Int) < (len : Int)) = false := by simp; omega
  have Hs := Lib.hid hs
  clear hS R hs
  go_enter Tryd.func11, Tryd.ntmps11
  go_wp2_with fail
  refine (law_lotted _).mono ?_
  rintro e w0 ⟨rfl, hb0⟩
  go_wp2_with fail
  refine (lots_New (s : Int) _).mono ?_
  rintro e w' ⟨rfl, rfl⟩
  have T0 : TwoLots w w0.heap.size (w0.heap.size + 1) s ((w0.alloc (.cells #[.int .u64 (s : Int)] 115)).alloc (.cells #[.int .u64 (s : Int)] 79)) := by
    refine ⟨(hb0.alloc hb0.size _).alloc (by have := hb0.size; simp; omega) _, (RowAt.new w0 115 [.int .u64 (s : Int)]).alloc _, ?_, hb0.size, by have := hb0.size; omega, by omega, Hs.out⟩
    have := RowAt.new (w0.alloc (.cells #[.int .u64 (s : Int)] 115)) 79 [.int .u64 (s : Int)]
    simpa [RLotsAt] using this
  have HT0 := Lib.hid T0
  clear T0 hb0
  go_wp2_with fail
  go_loopg [8] len (fun g i wr => ∃ k st : Nat, g + k = len ∧ i = .int .i64 k ∧ TwoLots w w0.heap.size (w0.heap.size + 1) st wr)
  case atStart => exact ⟨0, s, rfl, rfl, HT0.out⟩
  case round =>
    clear HT0
    obtain ⟨k, st, hg, rfl, T⟩ := hrel
    have hG := Lib.hid hg; have HT := Lib.hid T
    clear hg T
    by_cases hlt : k < len
    · obtain ⟨b, off, ha, hcz⟩ := HR.out.cells k hlt
      have Ha := Lib.hid ha; clear ha
      have := Ha.out; subst this
      have hbw := World.block_lt_of_cell? _ _ hcz
      have HC := Lib.hid (fun (wx : World) (hb : Below w.heap.size w wx) => (hb.cell (p := ⟨b, off + k, none⟩) hbw).trans hcz)
      clear hcz
      generalize zs.getD k 0 = z at *
      have c1 := HC.out _ HT.out.below
      by_cases hz : 1 ≤ z ∧ z ≤ 1125899906842624
      · obtain ⟨z1, z2⟩ := hz
        obtain ⟨n, rfl⟩ := Int.eq_ofNat_of_zero_le (show 0 ≤ z by omega)
        have e1 : decide ((n : Int) < 1) = false := decide_eq_false (by omega)
        have e2 : decide ((1125899906842624 : Int) < (n : Int)) = false := decide_eq_false (by omega)
        go_wp2_with fail
        refine (lots_Below_in _ st n _ HT.out.lt (by omega) (by omega) HT.out.x).mono ?_
        rintro e w1 ⟨rfl, k1, x1⟩
        have b1 : Below w.heap.size w w1 := Keep.after HT.out.below k1 (fun i hi => by have := HT.out.nx; omega)
        have m1 := HT.out.m.keep k1 (by have := HT.out.ne; omega)
        have c2 := HC.out _ b1
        have HX1 := Lib.hid x1; have HM1 := Lib.hid m1; have HB1 := Lib.hid b1
        clear c1 k1 x1 m1 b1
        have hbn := belowN_lt (s := st) (n := n) (by omega)
        have hbs := Lib.hid (belowS_lt st n)
        have hrb := Lib.hid (refl_Below (w0.heap.size + 1) st n w1 HT.out.lt (by omega) (by omega) HM1.out)
        generalize belowS st n = st' at *
        generalize belowN st n = v at *
        have hvv : ((v : Int) != (v : Int)) = false := bne_self_eq_false _
        go_wp2_with fail
        refine hrb.out.mono ?_
        rintro e w2 ⟨rfl, k2, m2⟩
        have b2 : Below w.heap.size w w2 := Keep.after HB1.out k2 (fun i hi => by have := HT.out.nm; omega)
        have x2 := HX1.out.keep k2 (by have := HT.out.ne; omega)
        have T2 := Lib.hid (show TwoLots w w0.heap.size (w0.heap.size + 1) st' w2 from ⟨b2, x2, m2, HT.out.nx, HT.out.nm, HT.out.ne, hbs.out⟩)
        have c3 := HC.out _ b2
        clear c2 k2 b2 x2 m2
        have q0 : decide ((v : Int) < 0) = false := decide_eq_false (by omega)
        have q1 : decide (n ≤ v) = false := decide_eq_false (by omega)
        clear e1 e2 z1 z2 hbn
        go_wp2_with fail
        have hg := hG.out
        go_roundg (len - (k + 1))
        case measure => omega
        case rel => exact ⟨k + 1, st', by omega, by go_num, T2.out⟩
      · have hz' : z < 1 ∨ (decide (z < 1) = false ∧ 1125899906842624 < z) := by simp only [decide_eq_false_iff_not]; omega
        have hzo : z < 1 ∨ 1125899906842624 < z := by omega
        have HZ := Lib.hid hzo
        have hadv := lotAdv_nat st
        have hst' : (st + 11400714819323198485) % 18446744073709551616 < 18446744073709551616 := Nat.mod_lt _ (by decide)
        generalize (st + 11400714819323198485) % 18446744073709551616 = st' at *
        have HAdv := Lib.hid hadv; have HSt := Lib.hid hst'
        clear hz hzo hadv hst'
        have hvv : (lotOut (st' : Int) != lotOut (st' : Int)) = false := bne_self_eq_false _
        rcases hz' with h | ⟨e1, h⟩
        all_goals
          go_wp2_with fail
          refine (lots_Below_out A [1, 2, 3, 4, 5, 6, 7, 8, 9, 10] _ z _ (HS.out.below HT.out.below).errs (by decide) HZ.out).mono ?_
          rintro e w1 ⟨rfl, nd, rfl⟩
          go_wp2_with fail
          refine (law1_coded A 2 (by decide) _ (HS.out.below (HT.out.below.drewN nd))).mono ?_
          rintro e w2 ⟨rfl, hb2⟩
          have T1 : TwoLots w w0.heap.size (w0.heap.size + 1) st (wr.drewN nd) := ⟨HT.out.below.drewN _, HT.out.x, HT.out.m, HT.out.nx, HT.out.nm, HT.out.ne, HT.out.lt⟩
          have T2 := T1.below' hb2
          have HT2 := Lib.hid T2
          have n1 := Lib.hid (lots_Next w0.heap.size (st : Int) w2 T2.x.cell T2.x.frozen)
          have x3 := T2.x.put (t := st')
          have m3 := RowAt.set_other T2.m (p := ⟨w0.heap.size, 0, none⟩) (by simp only; omega) (.int .u64 (st' : Int))
          have b3 := T2.below.setCell (p := ⟨w0.heap.size, 0, none⟩) T2.nx (.int .u64 (st' : Int))
          have n2 := Lib.hid (refl_Next (w0.heap.size + 1) (st : Int) (w2.setCell ⟨w0.heap.size, 0, none⟩ (.int .u64 (st' : Int))) (RowAt.cell m3 0) (RowAt.frozen m3 0))
          have m4 := RowAt.set m3 0 (.int .u64 (st' : Int))
          have x4 := RowAt.set_other x3 (p := ⟨w0.heap.size + 1, 0, none⟩) (by simp only; omega) (.int .u64 (st' : Int))
          have b4 := b3.setCell (p := ⟨w0.heap.size + 1, 0, none⟩) T2.nm (.int .u64 (st' : Int))
          have T4 := Lib.hid (show TwoLots w w0.heap.size (w0.heap.size + 1) st' _ from ⟨b4, x4, m4, T2.nx, T2.nm, T2.ne, HSt.out⟩)
          clear hb2 T1 T2 x3 m3 b3 m4 x4 b4 c1
          go_wp2_with fail
          refine n1.out.mono ?_
          rintro e w3 ⟨rfl, rfl⟩
          rw [HAdv.out]
          go_wp2_with fail
          refine n2.out.mono ?_
          rintro e w4 ⟨rfl, rfl⟩
          rw [HAdv.out]
          go_wp2_with fail
          have hg := hG.out
          go_roundg (len - (k + 1))
          case measure => omega
          case rel => exact ⟨k + 1, st', by omega, by go_num, T4.out⟩
    · have hb := HT.out.below
      have HB := Lib.hid hb
      clear hb
      go_wp2_with fail
      refine (law_OwnInts ao len cap zs _ (HR.out.below HB.out) (by omega)).mono ?_
      rintro e w1 ⟨ao1, cap1, rfl, ho1, hb1⟩
      have b1 := Lib.hid (btrans HB.out hb1)
      have HO := Lib.hid ho1
      clear ho1 hb1
      go_wp2_with fail
      refine (lots_Mix (s : Int) _ _ _ zs _ (RdI.of_own HO.out)).mono ?_
      rintro e w2 ⟨rfl, hb2⟩
      have b2 := Lib.hid (btrans b1.out hb2)
      clear hb2
      go_wp2_with fail
      refine (ref_MixOf (s : Int) _ _ _ zs _ (HR.out.below b2.out)).mono ?_
      rintro e w3 ⟨rfl, hb3⟩
      have b3 := Lib.hid (btrans b2.out hb3)
      clear hb3
      go_wp2_with fail
      go_ret
      exact ⟨by simp, b3.out⟩

set_option maxRecDepth 8000 in
theorem next_all (A : Nat → Addr) (s : Nat) (hs : s < 18446744073709551616) (ao : Option Addr) (len cap : Nat) (zs : List Int) (w : World) (hS : Sents A w) (R : RdI .i64 w ao len cap zs) :
    Calls Tryd.prog 11 #[.int .u64 s, .slice ao len cap] w fun e w' => e = .returned (.bool true) ∧ Below w.heap.size w w' := by
  by_cases hl : len ≤ 100
  · exact next_walk A s hs ao len cap zs w hS R hl
  · have d1 : decide ((100 : Int) < (len : Int)) = true := by simp; omega
    clear hS R hs
    go_enter Tryd.func11, Tryd.ntmps11
    go_wp2_with fail
    refine (law_lotted _).mono ?_
    rintro e w0 ⟨rfl, hb0⟩
    go_wp2
    go_ret
    exact ⟨rfl, hb0⟩
end Go.Proofs.YtajnfkmkombajaaDoor
