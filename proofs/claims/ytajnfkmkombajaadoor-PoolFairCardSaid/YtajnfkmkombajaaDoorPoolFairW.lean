/- The walk of PoolFair. -/
import Derived.Test.YtajnfkmkombajaaDoorPooled
import Derived.Test.YtajnfkmkombajaaDoorOpenA
import Derived.Deep.DeepCutAuto
import Derived.Deep.CutBlock
import Derived.Deep.LoopGhost
namespace Go.Proofs.YtajnfkmkombajaaDoor
open Go.RowKit

/-- the values that were, as far as they are laid down -/
def wasTo (q : QS) (j : Nat) : List Int := (List.range 6).map fun i : Nat => if i < j then q.value i else 0
theorem wasTo_zero (q : QS) : wasTo q 0 = [0, 0, 0, 0, 0, 0] := rfl
theorem wasTo_set (q : QS) {j : Nat} (hj : j < 6) : (wasTo q j).set j (q.value j) = wasTo q (j + 1) := by
  match j, hj with
  | 0, _ => rfl
  | 1, _ => rfl
  | 2, _ => rfl
  | 3, _ => rfl
  | 4, _ => rfl
  | 5, _ => rfl
theorem wasTo_get (q : QS) {j : Nat} (hj : j < 6) : (wasTo q 6)[j]? = some (q.value j) := by
  match j, hj with
  | 0, _ => rfl
  | 1, _ => rfl
  | 2, _ => rfl
  | 3, _ => rfl
  | 4, _ => rfl
  | 5, _ => rfl

/-- a pool, an act's own box, a row of numbers -/
structure FairAt (W : World) (b mb n : Nat) (q : QS) (ab wb : Nat) (s : ByteArray) (o N : Int) (vs : List Int) (w : World) : Prop where
  loop : PoolLoop W b mb n q w
  act : RowAt ab 28 [.string s, .int .i64 o, .int .i64 N] w
  was : RowAt wb 3 (vs.map (Value.int .i64)) w
  na : W.heap.size ≤ ab
  nw : W.heap.size ≤ wb
  aw : ab ≠ wb
  ab1 : ab ≠ b
  ab2 : ab ≠ mb
  wb1 : wb ≠ b
  wb2 : wb ≠ mb
section
variable {W w w' : World} {b mb n m : Nat} {q p : QS} {ab wb : Nat} {s : ByteArray} {o N : Int} {vs : List Int}
theorem FairAt.dr (h : FairAt W b mb n q ab wb s o N vs w) (k : Dr w w') : FairAt W b mb n q ab wb s o N vs w' := by
  obtain ⟨j, rfl⟩ := k
  exact ⟨h.loop.drewN j, h.act, h.was, h.na, h.nw, h.aw, h.ab1, h.ab2, h.wb1, h.wb2⟩
theorem FairAt.step (h : FairAt W b mb n q ab wb s o N vs w) (k : PoolP b mb m p w w') : FairAt W b mb m p ab wb s o N vs w' :=
  ⟨h.loop.step k, h.act.keep k.1 (fun e => e.elim h.ab1 h.ab2), h.was.keep k.1 (fun e => e.elim h.wb1 h.wb2), h.na, h.nw, h.aw, h.ab1, h.ab2, h.wb1, h.wb2⟩
theorem FairAt.c (h : FairAt W b mb n q ab wb s o N vs w) : w.cell? ⟨ab, 0, none⟩ = some (.string s) ∧ w.cell? ⟨ab, 1, none⟩ = some (.int .i64 o) ∧ w.cell? ⟨ab, 2, none⟩ = some (.int .i64 N) :=
  ⟨by rw [h.act.cell]; rfl, by rw [h.act.cell]; rfl, by rw [h.act.cell]; rfl⟩
theorem FairAt.set (h : FairAt W b mb n q ab wb s o N vs w) (j : Nat) (v : Int) : FairAt W b mb n q ab wb s o N (vs.set j v) (w.setCell ⟨wb, j, none⟩ (.int .i64 v)) := by
  obtain ⟨D, hown, hD⟩ := h.loop.pool.own
  refine ⟨⟨⟨h.loop.pool.ok, h.loop.pool.row.set_other (fun e => h.wb1 e) _, ⟨D, hown.setCell (a := ⟨wb, j, none⟩) (fun e => h.wb2 e.symm) _, hD⟩, h.loop.pool.ne⟩, h.loop.below.setCell h.nw _, h.loop.new, h.loop.newm⟩, h.act.set_other (fun e => h.aw e.symm) _, ?_, h.na, h.nw, h.aw, h.ab1, h.ab2, h.wb1, h.wb2⟩
  have := h.was.set j (.int .i64 v)
  rw [← List.map_set] at this
  exact this
theorem FairAt.at6 (h : FairAt W b mb n q ab wb s o N (wasTo p 6) w) {j : Nat} (hj : j < 6) : w.cell? ⟨wb, j, none⟩ = some (.int .i64 (p.value j)) := by
  rw [h.was.cell, List.getElem?_map, wasTo_get p hj]; rfl
theorem FairAt.mk0 (h : PoolLoop W b mb n q w) : FairAt W b mb n q w.heap.size (w.heap.size + 1) s o N [0, 0, 0, 0, 0, 0]
    ((w.alloc (.cells #[.string s, .int .i64 o, .int .i64 N] 28)).alloc (.cells #[.int .i64 0, .int .i64 0, .int .i64 0, .int .i64 0, .int .i64 0, .int .i64 0] 3)) := by
  have hl := h.pool.lt
  have hs := h.below.size
  have r1 := RowAt.new w 28 [.string s, .int .i64 o, .int .i64 N]
  have r2 := RowAt.new (w.alloc (.cells #[.string s, .int .i64 o, .int .i64 N] 28)) 3 (([0, 0, 0, 0, 0, 0] : List Int).map (Value.int .i64))
  have e : (w.alloc (.cells #[.string s, .int .i64 o, .int .i64 N] 28)).heap.size = w.heap.size + 1 := by simp
  rw [e] at r2
  exact ⟨(h.alloc _).alloc _, r1.alloc _, r2, hs, by omega, by omega, by omega, by omega, by omega, by omega⟩
end

theorem str_no {s : List UInt8} {a b : List UInt8} (h : (s == a) = true) (hab : (a == b) = false) : (s == b) = false := by
  have : s = a := by simpa using h
  subst this; exact hab

def MineIs (mn : Bool) (j o : Int) (ad : Bool) : Prop := (mn = true → j = o ∧ ad = false) ∧ (mn = false → ¬ (j = o ∧ ad = false))

theorem make_six (w : World) : (Instr.makeSlice 23 (.int .i64 6) (.int .i64 6)).run Tryd.prog w = .ok (.slice (some ⟨w.heap.size, 0, none⟩) 6 6) (w.alloc (.cells #[.int .i64 0, .int .i64 0, .int .i64 0, .int .i64 0, .int .i64 0, .int .i64 0] 3)) := by kernel_rfl

set_option maxRecDepth 8000 in
set_option maxHeartbeats 4000000 in
theorem fair_walk (A : Nat → Addr) (S : List Nat) (a0 : Option Addr) (len0 cap0 : Nat) (l0 : List ActA) (w : World) (hE : Errs A S w) (h2 : 2 ∈ S) (h4 : 4 ∈ S) (h6 : 6 ∈ S) (h7 : 7 ∈ S) (h8 : 8 ∈ S)
    (R0 : RdR ActA.enc 3 w a0 len0 cap0 l0) (hl : len0 ≤ 100) :
    Calls Tryd.prog 12 #[.slice a0 len0 cap0] w fun e w' => e = .returned (.bool true) ∧ Below w.heap.size w w' := by
  have HE := Lib.hid hE; clear hE
  have HR0 := Lib.hid R0; clear R0
  have d1 : decide ((100 : Int) < (len0 : Int)) = false := by simp; omega
  have hmk := make_six
  go_enter Tryd.func12, Tryd.ntmps12
  go_wp2_with fail
  refine (law_joined A S _ HE.out h2 h4 h7 h8).mono ?_
  rintro e w0 ⟨rfl, hb0⟩
  go_wp2_with fail
  refine (pool_New _).mono ?_
  rintro e w1 ⟨mb, rfl, hb1, hmb, hp1⟩
  obtain ⟨b, hb⟩ : ∃ b, b = w0.heap.size + 1 := ⟨_, rfl⟩
  rw [← hb] at hp1 ⊢
  have L1 := Lib.hid (show PoolLoop w b mb 0 QS.new w1 from ⟨hp1, btrans hb0 hb1, by have := hb0.size; omega, by have := hb0.size; omega⟩)
  clear hp1 hb1 hmb hb
  go_wp2_with fail
  go_loopg [5] len0 (fun g i wr => ∃ (k : Nat) (q : QS), PoolLoop w b mb k q wr ∧ g + k = len0 ∧ i = .int .i64 k)
  case atStart => exact ⟨0, _, L1.out, rfl, rfl⟩
  case round =>
    clear L1
    obtain ⟨k, q, L, hg, rfl⟩ := hrel
    by_cases hlt : k < len0
    · obtain ⟨x, hx⟩ : ∃ x, l0[k]? = some x := ⟨_, List.getElem?_eq_getElem (by rw [HR0.out.size]; exact hlt)⟩
      obtain ⟨ob, off, rfl, hbl, hcs⟩ := (HR0.out.below L.below).cells k x hx
      have c0 := hcs 0 (by decide)
      have c1 := hcs 1 (by decide)
      have c2 := hcs 2 (by decide)
      simp only [ActA.enc, List.getElem?_cons_zero, List.getElem?_cons_succ, Nat.add_zero] at c0 c1 c2
      have hG := Lib.hid hg; clear hg hcs hx
      obtain ⟨s, o, N⟩ := x
      simp only at c0 c1 c2
      have F0 := Lib.hid (FairAt.mk0 (s := s) (o := o) (N := N) L)
      have HQ := Lib.hid L.pool.ok
      have hkm : k < maxLen := by unfold maxLen; omega
      clear L
      go_wp2_with fail
      generalize wr.heap.size + 1 = wb at *
      generalize wr.heap.size = ab at *
      go_loopw [8] (fun i wx => ∃ j : Nat, j ≤ 6 ∧ i = .int .i64 j ∧ FairAt w b mb k q ab wb s o N (wasTo q j) wx) (fun i _ => 6 - (intOf i).toNat)
      case atStart => exact ⟨0, by omega, rfl, F0.out⟩
      case round =>
        clear F0 c0 c1 c2 hmk
        obtain ⟨j, hj, rfl, F⟩ := hrel
        have HF := Lib.hid F; clear F
        by_cases hj6 : j < 6
        · have vb := HQ.out.value_bd (j : Int)
          have qt := HQ.out.t1
          have hlw := HF.out.was.lt
          have hfz := HF.out.was.frozen j
          have hwf : (Lit.int .i64 (j : Int)).wf = true := WalkArith.wf_i64 (by omega)
          go_wp2_with fail
          refine (pool_Value A S b mb _ _ (j : Int) _ (HE.out.below HF.out.loop.below) h2 HF.out.loop.pool hwf).mono ?_
          rintro e w3 ⟨rfl, hd⟩
          have HF3 := Lib.hid (HF.out.dr hd)
          have hfz3 := HF3.out.was.frozen j
          have hlw3 := HF3.out.was.lt
          have hc3 : ∃ u, w3.cell? ⟨wb, j, none⟩ = some u := ⟨_, by rw [HF3.out.was.cell, List.getElem?_map, List.getElem?_eq_getElem (by simpa [wasTo] using hj6)]; rfl⟩
          obtain ⟨u, hc3⟩ := hc3
          have HS := Lib.hid (HF3.out.set j (q.value (j : Int)))
          have HW := Lib.hid (wasTo_set q hj6)
          clear hd hfz hlw HF
          go_wp2_with fail
          go_roundw
          case rel => exact ⟨j + 1, by omega, by go_num, by rw [← HW.out]; exact HS.out⟩
          case measure => simp [intOf]; omega
        · obtain rfl : j = 6 := by omega
          obtain ⟨e0, e1, e2⟩ := HF.out.c
          have hqo := HQ.out
          go_upto_block 4 with fail
          go_cut [9, 10] (fun s9 s10 wx => ∃ (q' : QS) (c : Nat) (sl jn tk ad : Bool), FairAt w b mb (k + 1) q' ab wb s o N (wasTo q 6) wx ∧ s9 = ev A c ∧ s10 = .bool sl ∧ Fair q q' c sl jn tk ad o N ∧ q'.Ok ∧ (s.toList == [106, 111, 105, 110]) = jn ∧ (s.toList == [116, 97, 107, 101]) = tk ∧ (s.toList == [97, 100, 100]) = ad ∧ (sl = true → jn = false ∧ tk = false ∧ ad = false))
          case first =>
            as_aux_lemma =>
            by_cases m0 : (s.toList == [106, 111, 105, 110]) = true
            · go_wp2_with fail
              refine (pool_Join A S b mb _ q o N _ (HE.out.below HF.out.loop.below) h2 h7 h8 HF.out.loop.pool hkm).mono ?_
              rintro e w2 ⟨rfl, k2⟩
              have HF2 := Lib.hid (HF.out.step k2)
              have HFR := Lib.hid (fair_join hqo o N)
              have HOK := Lib.hid (QS.joinOp_ok hqo o N)
              clear k2
              go_wp2_with fail
              go_meet
              case rel => exact ⟨_, _, _, _, _, _, HF2.out, rfl, rfl, HFR.out, HOK.out, m0, str_no m0 (by decide), str_no m0 (by decide), fun h => (by cases h)⟩
            · have n0 : (s.toList == [106, 111, 105, 110]) = false := by simpa using m0
              clear m0
              by_cases m1 : (s.toList == [116, 97, 107, 101]) = true
              · go_wp2_with fail
                refine (pool_Take A S b mb _ q o N _ (HE.out.below HF.out.loop.below) h2 h6 HF.out.loop.pool hkm).mono ?_
                rintro e w2 ⟨rfl, k2⟩
                have HF2 := Lib.hid (HF.out.step k2)
                have HFR := Lib.hid (fair_take hqo o N)
                have HOK := Lib.hid (QS.takeOp_ok hqo o N)
                clear k2
                go_wp2_with fail
                go_meet
                case rel => exact ⟨_, _, _, _, _, _, HF2.out, rfl, rfl, HFR.out, HOK.out, str_no m1 (by decide), m1, str_no m1 (by decide), fun h => (by cases h)⟩
              · have n1 : (s.toList == [116, 97, 107, 101]) = false := by simpa using m1
                clear m1
                by_cases m2 : (s.toList == [108, 101, 97, 118, 101]) = true
                · go_wp2_with fail
                  refine (pool_Leave A S b mb _ q o _ (HE.out.below HF.out.loop.below) h2 h4 HF.out.loop.pool hkm).mono ?_
                  rintro e w2 ⟨rfl, k2⟩
                  have HF2 := Lib.hid (HF.out.step k2)
                  have HFR := Lib.hid (fair_leave hqo o N)
                  have HOK := Lib.hid (QS.leaveOp_ok hqo o)
                  clear k2
                  go_wp2_with fail
                  go_meet
                  case rel => exact ⟨_, _, _, _, _, _, HF2.out, rfl, rfl, HFR.out, HOK.out, str_no m2 (by decide), str_no m2 (by decide), str_no m2 (by decide), fun h => (by cases h)⟩
                · have n2 : (s.toList == [108, 101, 97, 118, 101]) = false := by simpa using m2
                  clear m2
                  by_cases m3 : (s.toList == [97, 100, 100]) = true
                  · go_wp2_with fail
                    refine (pool_Add A S b mb _ q N _ (HE.out.below HF.out.loop.below) h2 h4 HF.out.loop.pool).mono ?_
                    rintro e w2 ⟨rfl, k2⟩
                    have HF2 := Lib.hid (HF.out.step k2)
                    have HFR := Lib.hid (fair_add hqo o N)
                    have HOK := Lib.hid (QS.addOp_ok hqo N)
                    clear k2
                    go_wp2_with fail
                    go_meet
                    case rel => exact ⟨_, _, _, _, _, _, HF2.out, rfl, rfl, HFR.out, HOK.out, str_no m3 (by decide), str_no m3 (by decide), m3, fun h => (by cases h)⟩
                  · have n3 : (s.toList == [97, 100, 100]) = false := by simpa using m3
                    clear m3
                    go_wp2_with fail
                    refine (pool_Slash A S b mb _ q N _ (HE.out.below HF.out.loop.below) h2 HF.out.loop.pool).mono ?_
                    rintro e w2 ⟨rfl, k2⟩
                    have HF2 := Lib.hid (HF.out.step k2)
                    have HFR := Lib.hid (fair_slash hqo o N N false)
                    have HOK := Lib.hid (QS.slashOp_ok hqo N)
                    clear k2
                    go_wp2_with fail
                    go_meet
                    case rel => exact ⟨_, _, _, _, _, _, HF2.out, rfl, rfl, HFR.out, HOK.out, n0, n1, n3, fun _ => ⟨rfl, rfl, rfl⟩⟩
          case rest =>
            clear HF e0 e1 e2 hqo
            obtain ⟨q', c, sl, jn, tk, ad, F2, rfl, rfl, FR, hok, hj, ht, ha, hsd⟩ := hcut
            have HF2 := Lib.hid F2
            have HFR := Lib.hid FR
            have HOK := Lib.hid hok
            clear F2 FR hok
            go_wp2_with fail
            go_loopw [11, 12] (fun t i wy => ∃ j : Nat, j ≤ 6 ∧ i = .int .i64 j ∧ t = .int .i64 (q'.vsum j) ∧ FairAt w b mb (k + 1) q' ab wb s o N (wasTo q 6) wy) (fun _ i _ => 6 - (intOf i).toNat)
            case atStart => exact ⟨0, by omega, rfl, rfl, HF2.out⟩
            case round =>
              clear HF2
              obtain ⟨j, hj', rfl, rfl, F⟩ := hrel
              have HF := Lib.hid F; clear F
              by_cases hj6 : j < 6
              · have hwf : (Lit.int .i64 (j : Int)).wf = true := WalkArith.wf_i64 (by omega)
                have vb := HOK.out.value_bd (j : Int)
                have ub := HQ.out.value_bd (j : Int)
                have qt := HQ.out.t1
                have qt' := HOK.out.t1
                have vs := HOK.out.vsum_bd j
                have f1 := fun h => HFR.out.same h (j : Int)
                have f2 := fun h => HFR.out.others h (j : Int)
                have f3 := HFR.out.join
                have f4 := HFR.out.take
                have f5 := fun h => HFR.out.slash h (j : Int)
                have f6 := HFR.out.bd
                have HVS := Lib.hid (show q'.vsum (j + 1) = q'.vsum j + q'.value (j : Int) from rfl)
                go_wp2_with fail
                refine (pool_Value A S b mb _ _ (j : Int) _ (HE.out.below HF.out.loop.below) h2 HF.out.loop.pool hwf).mono ?_
                rintro e w3 ⟨rfl, hd⟩
                have HF3 := Lib.hid (HF.out.dr hd)
                obtain ⟨e0, e1, e2⟩ := HF3.out.c
                have e3 := HF3.out.at6 hj6
                clear hd HF
                have hv : ∃ v u, q'.value (j : Int) = v ∧ q.value (j : Int) = u := ⟨_, _, rfl, rfl⟩
                obtain ⟨v, u, hv, hu⟩ := hv
                have Hu := Lib.hid hu; have Hv := Lib.hid hv
                simp only [hv] at vb f1 f2 f5
                simp only [hu] at ub f1 f2 f5 e3
                rw [hv]
                clear hv hu
                generalize q'.vsum j = vs0 at *
                have w64 : wrap64 (vs0 + v) = vs0 + v := IntWalk.wrap64_in _ ⟨by omega, by omega⟩
                have wi64 : IntKind.i64.wrap (vs0 + v) = vs0 + v := IntWalk.i64_in _ ⟨by omega, by omega⟩
                go_upto_region 35 with fail
                go_cut [9, 107] (fun s9 s1 wx => s9 = ev A c ∧ s1 = .bool false ∧ FairAt w b mb (k + 1) q' ab wb s o N (wasTo q 6) wx)
                case first =>
                  as_aux_lemma =>
                  by_cases hc : c = 0
                  · subst hc
                    rw [ev_nil]
                    go_wp2_with fail
                    go_meet
                    case rel => exact ⟨rfl, rfl, HF3.out⟩
                  · rw [ev_some A hc]
                    have f1 := f1 hc
                    have nuu : (v != u) = false := by rw [f1]; exact bne_self_eq_false _
                    have HC := Lib.hid hc; clear hc
                    go_wp2_with fail
                    go_meet
                    case rel => exact ⟨(ev_some A HC.out).symm, rfl, HF3.out⟩
                case rest =>
                clear HF3 e0 e1 e2 e3
                obtain ⟨rfl, rfl, F3⟩ := hcut
                obtain ⟨e0, e1, e2⟩ := F3.c
                have e3 := F3.at6 hj6
                rw [Hu.out] at e3
                have HF3 := Lib.hid F3; clear F3
                go_upto_region 37 with fail
                go_cut [14] (fun s1 wx => (∃ mn : Bool, s1 = .bool mn ∧ MineIs mn j o ad) ∧ FairAt w b mb (k + 1) q' ab wb s o N (wasTo q 6) wx)
                case first =>
                  as_aux_lemma =>
                  by_cases hk : (j : Int) = o
                  · have hkb : ((j : Int) == o) = true := by simp [hk]
                    have HK := Lib.hid hk; clear hk
                    cases had : ad with
                    | true =>
                      rw [had] at ha
                      have ha3 : (s.toList != [97, 100, 100]) = false := by simp [bne, ha]
                      have HD := Lib.hid had; clear had
                      go_wp2_with fail
                      go_meet
                      case rel => exact ⟨⟨false, rfl, (fun h => by cases h), fun _ h => (by rw [HD.out] at h; cases h.2)⟩, HF3.out⟩
                    | false =>
                      rw [had] at ha
                      have ha3 : (s.toList != [97, 100, 100]) = true := by simp [bne, ha]
                      have HD := Lib.hid had; clear had
                      go_wp2_with fail
                      go_meet
                      case rel => exact ⟨⟨true, rfl, fun _ => ⟨HK.out, HD.out⟩, (fun h => by cases h)⟩, HF3.out⟩
                  · have hkb : ((j : Int) == o) = false := by simp [hk]
                    have HK := Lib.hid hk; clear hk
                    go_wp2_with fail
                    go_meet
                    case rel => exact ⟨⟨false, rfl, (fun h => by cases h), fun _ h => HK.out h.1⟩, HF3.out⟩
                case rest =>
                clear HF3 e0 e1 e2 e3
                obtain ⟨⟨mn, rfl, HM⟩, F3⟩ := hcut
                have HM := Lib.hid HM
                obtain ⟨e0, e1, e2⟩ := F3.c
                have e3 := F3.at6 hj6
                rw [Hu.out] at e3
                have HF3 := Lib.hid F3; clear F3
                go_upto_region 38 with fail
                go_cut [10, 14, 130] (fun s10 s14 s130 wx => s10 = .bool sl ∧ s14 = .bool mn ∧ s130 = .bool false ∧ FairAt w b mb (k + 1) q' ab wb s o N (wasTo q 6) wx)
                case first =>
                  as_aux_lemma =>
                  by_cases hs : sl = true
                  · subst hs
                    go_wp2_with fail
                    go_meet
                    case rel => exact ⟨rfl, rfl, rfl, HF3.out⟩
                  · have hs0 : sl = false := by simpa using hs
                    subst hs0
                    by_cases hm : mn = true
                    · subst hm
                      go_wp2_with fail
                      go_meet
                      case rel => exact ⟨rfl, rfl, rfl, HF3.out⟩
                    · have hm0' : mn = false := by simpa using hm
                      subst hm0'
                      have f2' := f2 rfl (HM.out.2 rfl)
                      have dlt : decide (v < u) = false := decide_eq_false (by omega)
                      go_wp2_with fail
                      go_meet
                      case rel => exact ⟨rfl, rfl, rfl, HF3.out⟩
                case rest =>
                clear HF3 e0 e1 e2 e3
                obtain ⟨rfl, rfl, rfl, F3⟩ := hcut
                obtain ⟨e0, e1, e2⟩ := F3.c
                have e3 := F3.at6 hj6
                rw [Hu.out] at e3
                have HF3 := Lib.hid F3; clear F3
                go_upto_region 40 with fail
                go_cut [9, 14, 152] (fun s9 s14 s152 wx => s9 = ev A c ∧ s14 = .bool mn ∧ s152 = .bool false ∧ FairAt w b mb (k + 1) q' ab wb s o N (wasTo q 6) wx)
                case first =>
                  as_aux_lemma =>
                  by_cases hc : c = 0
                  · subst hc
                    rw [ev_nil]
                    by_cases hm : mn = true
                    · subst hm
                      by_cases hjn : jn = true
                      · have hjo := (HM.out.1 rfl).1
                        have x6 := f6 rfl (.inl hjn)
                        have x3 := f3 rfl hjn
                        rw [← hjo, Hu.out, Hv.out] at x3
                        clear hjo
                        have dlt : decide (u + N + 1 < v) = false := decide_eq_false (by omega)
                        rw [hjn] at hj
                        go_quiet (fail)
                        go_wp2_with fail
                        go_meet
                        case rel => exact ⟨rfl, rfl, rfl, HF3.out.dr ⟨_, rfl⟩⟩
                      · have hjn0 : jn = false := by simpa using hjn
                        rw [hjn0] at hj
                        go_quiet (fail)
                        go_wp2_with fail
                        go_meet
                        case rel => exact ⟨rfl, rfl, rfl, HF3.out.dr ⟨_, rfl⟩⟩
                    · have hm0' : mn = false := by simpa using hm
                      subst hm0'
                      go_quiet (fail)
                      go_wp2_with fail
                      go_meet
                      case rel => exact ⟨rfl, rfl, rfl, HF3.out.dr ⟨_, rfl⟩⟩
                  · rw [ev_some A hc]
                    have HC := Lib.hid hc; clear hc
                    go_quiet (fail)
                    go_wp2_with fail
                    go_meet
                    case rel => exact ⟨(ev_some A HC.out).symm, rfl, rfl, HF3.out.dr ⟨_, rfl⟩⟩
                case rest =>
                clear HF3 e0 e1 e2 e3
                obtain ⟨rfl, rfl, rfl, F3⟩ := hcut
                obtain ⟨e0, e1, e2⟩ := F3.c
                have e3 := F3.at6 hj6
                rw [Hu.out] at e3
                have HF3 := Lib.hid F3; clear F3
                go_upto_region 42 with fail
                go_cut [9, 14, 174] (fun s9 s14 s174 wx => s9 = ev A c ∧ s14 = .bool mn ∧ s174 = .bool false ∧ FairAt w b mb (k + 1) q' ab wb s o N (wasTo q 6) wx)
                case first =>
                  as_aux_lemma =>
                  by_cases hc : c = 0
                  · subst hc
                    rw [ev_nil]
                    by_cases hm : mn = true
                    · subst hm
                      by_cases hjn : tk = true
                      · have hjo := (HM.out.1 rfl).1
                        have x6 := f6 rfl (.inr hjn)
                        have x3 := f4 rfl hjn
                        rw [← hjo, Hu.out, Hv.out] at x3
                        clear hjo
                        have dlt : decide (u - N + 1 < v) = false := decide_eq_false (by omega)
                        rw [hjn] at ht
                        go_quiet (fail)
                        go_wp2_with fail
                        go_meet
                        case rel => exact ⟨rfl, rfl, rfl, HF3.out.dr ⟨_, rfl⟩⟩
                      · have hjn0 : tk = false := by simpa using hjn
                        rw [hjn0] at ht
                        go_quiet (fail)
                        go_wp2_with fail
                        go_meet
                        case rel => exact ⟨rfl, rfl, rfl, HF3.out.dr ⟨_, rfl⟩⟩
                    · have hm0' : mn = false := by simpa using hm
                      subst hm0'
                      go_quiet (fail)
                      go_wp2_with fail
                      go_meet
                      case rel => exact ⟨rfl, rfl, rfl, HF3.out.dr ⟨_, rfl⟩⟩
                  · rw [ev_some A hc]
                    have HC := Lib.hid hc; clear hc
                    go_quiet (fail)
                    go_wp2_with fail
                    go_meet
                    case rel => exact ⟨(ev_some A HC.out).symm, rfl, rfl, HF3.out.dr ⟨_, rfl⟩⟩
                case rest =>
                clear HF3 e0 e1 e2 e3
                obtain ⟨rfl, rfl, rfl, F3⟩ := hcut
                obtain ⟨e0, e1, e2⟩ := F3.c
                have e3 := F3.at6 hj6
                rw [Hu.out] at e3
                have HF3 := Lib.hid F3; clear F3
                go_upto_region 44 with fail
                go_cut [10, 183] (fun s10 s183 wx => s10 = .bool sl ∧ s183 = .bool false ∧ FairAt w b mb (k + 1) q' ab wb s o N (wasTo q 6) wx)
                case first =>
                  as_aux_lemma =>
                  by_cases hs : sl = true
                  · subst hs
                    have f5' := f5 rfl
                    have dlt : decide (u < v) = false := decide_eq_false (by omega)
                    go_wp2_with fail
                    go_meet
                    case rel => exact ⟨rfl, rfl, HF3.out⟩
                  · have hs0 : sl = false := by simpa using hs
                    subst hs0
                    go_wp2_with fail
                    go_meet
                    case rel => exact ⟨rfl, rfl, HF3.out⟩
                case rest =>
                clear HF3 e0 e1 e2 e3
                obtain ⟨rfl, rfl, F3⟩ := hcut
                obtain ⟨e0, e1, e2⟩ := F3.c
                have e3 := F3.at6 hj6
                rw [Hu.out] at e3
                have HF3 := Lib.hid F3; clear F3
                have HW64 := Lib.hid w64
                clear vb ub qt qt' vs f1 f2 f3 f4 f5 f6 w64 wi64 e0 e1 e2 e3 hj ht ha hsd HM
                go_wp2_with fail
                go_roundw
                case rel => (repeat apply Exists.intro); exact ⟨⟨j + 1, by omega, by go_num, by rw [HVS.out, Hv.out], HF3.out⟩, rfl⟩
                case measure => simp [intOf]; omega
              · obtain rfl : j = 6 := by omega
                have vle := HOK.out.vsum_le
                have vb := HOK.out.vsum_bd 6
                have qt' := HOK.out.t1
                have nn := HOK.out.nil
                go_wp2_with fail
                refine (pool_Total b mb _ _ _ HF.out.loop.pool).mono ?_
                rintro e w3 ⟨rfl, rfl⟩
                by_cases hA : q'.all = 0
                · have hT := nn hA
                  have HA := Lib.hid hA
                  clear nn hA
                  generalize q'.vsum 6 = vs0 at *
                  rw [hT] at vle ⊢
                  go_wp2_with fail
                  refine (pool_All b mb _ _ _ HF.out.loop.pool).mono ?_
                  rintro e w3 ⟨rfl, rfl⟩
                  rw [HA.out]
                  go_wp2_with fail
                  refine (pool_Total b mb _ _ _ HF.out.loop.pool).mono ?_
                  rintro e w3 ⟨rfl, rfl⟩
                  rw [hT]
                  clear hT
                  go_wp2_with fail
                  have hg := hG.out
                  go_roundg (len0 - (k + 1))
                  case measure => omega
                  case rel => exact ⟨k + 1, q', HF.out.loop, by omega, by go_num⟩
                · have hAz : (q'.all == 0) = false := by simp [hA]
                  clear nn hA
                  generalize q'.vsum 6 = vs0 at *
                  go_wp2_with fail
                  refine (pool_All b mb _ _ _ HF.out.loop.pool).mono ?_
                  rintro e w3 ⟨rfl, rfl⟩
                  go_wp2_with fail
                  have hg := hG.out
                  go_roundg (len0 - (k + 1))
                  case measure => omega
                  case rel => exact ⟨k + 1, q', HF.out.loop, by omega, by go_num⟩
    · have hle : len0 ≤ k := by omega
      clear hlt
      have HL := Lib.hid L; clear L
      have hG := Lib.hid hg; clear hg
      go_wp2
      go_ret
      exact ⟨rfl, HL.out.below⟩
set_option maxHeartbeats 4000000 in
set_option maxRecDepth 8000 in
/-- whatever comes -/
theorem fair_all (A : Nat → Addr) (S : List Nat) (a0 : Option Addr) (len0 cap0 : Nat) (l0 : List ActA) (w : World) (hE : Errs A S w) (h2 : 2 ∈ S) (h4 : 4 ∈ S) (h6 : 6 ∈ S) (h7 : 7 ∈ S) (h8 : 8 ∈ S)
    (R0 : RdR ActA.enc 3 w a0 len0 cap0 l0) :
    Calls Tryd.prog 12 #[.slice a0 len0 cap0] w fun e w' => e = .returned (.bool true) ∧ Below w.heap.size w w' := by
  by_cases hg : len0 ≤ 100
  · exact fair_walk A S a0 len0 cap0 l0 w hE h2 h4 h6 h7 h8 R0 hg
  · have HE := Lib.hid hE; clear hE R0
    go_enter Tryd.func12, Tryd.ntmps12
    go_wp2_with fail
    refine (law_joined A S _ HE.out h2 h4 h7 h8).mono ?_
    rintro e w0 ⟨rfl, hb0⟩
    go_wp2
    go_ret
    exact ⟨rfl, hb0⟩
end Go.Proofs.YtajnfkmkombajaaDoor
