/- The walk of PoolAlone. -/
import Derived.Test.YtajnfkmkombajaaDoorPooled
import Derived.Test.YtajnfkmkombajaaDoorOpenA
import Derived.Deep.DeepCutAuto
import Derived.Deep.CutBlock
import Derived.Deep.LoopGhost
namespace Go.Proofs.YtajnfkmkombajaaDoor
open Go.RowKit

theorem ev_ne0 (A : Nat → Addr) {c : Nat} (h : c ≠ 0) : ev A c = .iface 111 (.pointer (some (A c))) := ev_some A h

set_option maxRecDepth 8000 in
set_option maxHeartbeats 1000000 in
theorem alone_walk (A : Nat → Addr) (S : List Nat) (n : Int) (a0 : Option Addr) (len0 cap0 : Nat) (l0 : List ActA) (other : Int) (w : World) (hE : Errs A S w) (h2 : 2 ∈ S) (h4 : 4 ∈ S) (h7 : 7 ∈ S) (h8 : 8 ∈ S)
    (R0 : RdR ActA.enc 3 w a0 len0 cap0 l0) (hl : len0 ≤ 60) (hn0 : 1 ≤ n) (hn1 : n ≤ 1099511627776) (ho0 : 1 ≤ other) (ho1 : other ≤ 1099511627776) :
    Calls Tryd.prog 9 #[.int .i64 n, .slice a0 len0 cap0, .int .i64 other] w fun e w' => e = .returned (.bool true) ∧ Below w.heap.size w w' := by
  have HE := Lib.hid hE; clear hE
  have HR0 := Lib.hid R0; clear R0
  have d1 : decide ((60 : Int) < (len0 : Int)) = false := by simp; omega
  go_enter Tryd.func9, Tryd.ntmps9
  go_wp2_with fail
  refine (law_joined A S _ HE.out h2 h4 h7 h8).mono ?_
  rintro e w0 ⟨rfl, hb0⟩
  go_wp2_with fail
  refine (pool_New _).mono ?_
  rintro e w1 ⟨mb, rfl, hb1, hmb, hp1⟩
  obtain ⟨b, hb⟩ : ∃ b, b = w0.heap.size + 1 := ⟨_, rfl⟩
  rw [← hb] at hp1 ⊢
  have L1 := Lib.hid (show PoolLoop w b mb 0 QS.new w1 from ⟨hp1, btrans hb0 hb1, by have := hb0.size; omega, by have := hb0.size; omega⟩)
  clear hp1 hb1 hmb hb
  obtain ⟨j1, j2, j3⟩ := alone_first (o := 2) (n := n) (by decide) hn0 (by omega)
  go_wp2_with fail
  refine (pool_Join A S b mb 0 _ _ _ _ (HE.out.below L1.out.below) h2 h7 h8 L1.out.pool (by decide)).mono ?_
  rintro e w2 ⟨rfl, k2⟩
  rw [j1, ev_nil]
  have L2 := Lib.hid (L1.out.step k2)
  have J2 := Lib.hid j2
  clear k2 j1 j2 j3 L1
  generalize (QS.new.joinOp 2 n).2 = q0 at *
  go_wp2_with fail
  go_loopg [9] len0 (fun g i wr => ∃ (k : Nat) (q : QS), PoolLoop w b mb (1 + k) q wr ∧ q.Alone 2 ∧ g + k = len0 ∧ i = .int .i64 k)
  case atStart => exact ⟨0, q0, L2.out, J2.out, rfl, rfl⟩
  case round =>
    clear L2 J2
    obtain ⟨k, q, L, J, hg, rfl⟩ := hrel
    by_cases hlt : k < len0
    · obtain ⟨x, hx⟩ : ∃ x, l0[k]? = some x := ⟨_, List.getElem?_eq_getElem (by rw [HR0.out.size]; exact hlt)⟩
      obtain ⟨ab, off, rfl, hbl, hcs⟩ := (HR0.out.below L.below).cells k x hx
      have c0 := hcs 0 (by decide)
      have c2 := hcs 2 (by decide)
      simp only [ActA.enc, List.getElem?_cons_zero, List.getElem?_cons_succ, Nat.add_zero] at c0 c2
      have hG := Lib.hid hg; clear hg hcs hx
      obtain ⟨s, o, N⟩ := x
      simp only at c0 c2
      have HL := Lib.hid L; clear L
      have HJ := Lib.hid J; clear J
      have hways : N < 0 ∨ (0 ≤ N ∧ 1099511627776 < N) ∨ (0 ≤ N ∧ N ≤ 1099511627776) := by omega
      rcases hways with hN | ⟨hN, hN2⟩ | ⟨hN, hN2⟩
      · go_wp2_with fail
        have hg := hG.out
        go_roundg (len0 - (k + 1))
        case measure => omega
        case rel => exact ⟨k + 1, q, HL.out.mono (by omega), HJ.out, by omega, by go_num⟩
      · go_wp2_with fail
        have hg := hG.out
        go_roundg (len0 - (k + 1))
        case measure => omega
        case rel => exact ⟨k + 1, q, HL.out.mono (by omega), HJ.out, by omega, by go_num⟩
      · by_cases m0 : (s.toList == [97, 100, 100]) = true
        · go_wp2_with fail
          refine (pool_Add A S b mb _ q N _ (HE.out.below HL.out.below) h2 h4 HL.out.pool).mono ?_
          rintro e w2 ⟨rfl, k2⟩
          have HL2 := Lib.hid (HL.out.step k2)
          have HJ2 := Lib.hid (alone_add HJ.out N)
          clear k2 HL HJ c0 c2
          generalize (q.addOp N).1 = ec at *
          generalize (q.addOp N).2 = q1 at *
          have hv := HJ2.out.value
          have hsh := HJ2.out.is
          have HV := Lib.hid hv; have HS := Lib.hid hsh
          clear hv hsh
          go_wp2_with fail
          refine (pool_Value A S b mb _ _ 2 _ (HE.out.below HL2.out.below) h2 HL2.out.pool (by decide)).mono ?_
          rintro e w3 ⟨rfl, hd⟩
          have HL3 := Lib.hid (HL2.out.dr hd)
          clear hd
          rw [HV.out]
          go_wp2_with fail
          refine (pool_Total b mb _ _ _ HL3.out.pool).mono ?_
          rintro e w4 ⟨rfl, rfl⟩
          have ne1 : (q1.total != q1.total) = false := bne_self_eq_false _
          go_wp2_with fail
          refine (pool_Shares b mb _ _ 2 _ HL3.out.pool (by decide)).mono ?_
          rintro e w4 ⟨rfl, rfl⟩
          rw [HS.out]
          go_wp2_with fail
          refine (pool_All b mb _ _ _ HL3.out.pool).mono ?_
          rintro e w4 ⟨rfl, rfl⟩
          have ne2 : (q1.all != q1.all) = false := bne_self_eq_false _
          go_wp2_with fail
          have hg := hG.out
          go_roundg (len0 - (k + 1))
          case measure => omega
          case rel => exact ⟨k + 1, q1, HL3.out.mono (by omega), HJ2.out, by omega, by go_num⟩
        · have m1 : (s.toList == [97, 100, 100]) = false := by simpa using m0
          clear m0
          go_wp2_with fail
          refine (pool_Slash A S b mb _ q N _ (HE.out.below HL.out.below) h2 HL.out.pool).mono ?_
          rintro e w2 ⟨rfl, k2⟩
          have HL2 := Lib.hid (HL.out.step k2)
          have HJ2 := Lib.hid (alone_slash HJ.out N)
          clear k2 HL HJ c0 c2
          generalize (q.slashOp N).1 = ev1 at *
          generalize (q.slashOp N).2.1 = ec at *
          generalize (q.slashOp N).2.2 = q1 at *
          have hv := HJ2.out.value
          have hsh := HJ2.out.is
          have HV := Lib.hid hv; have HS := Lib.hid hsh
          clear hv hsh
          go_wp2_with fail
          refine (pool_Value A S b mb _ _ 2 _ (HE.out.below HL2.out.below) h2 HL2.out.pool (by decide)).mono ?_
          rintro e w3 ⟨rfl, hd⟩
          have HL3 := Lib.hid (HL2.out.dr hd)
          clear hd
          rw [HV.out]
          go_wp2_with fail
          refine (pool_Total b mb _ _ _ HL3.out.pool).mono ?_
          rintro e w4 ⟨rfl, rfl⟩
          have ne1 : (q1.total != q1.total) = false := bne_self_eq_false _
          go_wp2_with fail
          refine (pool_Shares b mb _ _ 2 _ HL3.out.pool (by decide)).mono ?_
          rintro e w4 ⟨rfl, rfl⟩
          rw [HS.out]
          go_wp2_with fail
          refine (pool_All b mb _ _ _ HL3.out.pool).mono ?_
          rintro e w4 ⟨rfl, rfl⟩
          have ne2 : (q1.all != q1.all) = false := bne_self_eq_false _
          go_wp2_with fail
          have hg := hG.out
          go_roundg (len0 - (k + 1))
          case measure => omega
          case rel => exact ⟨k + 1, q1, HL3.out.mono (by omega), HJ2.out, by omega, by go_num⟩
    · have hle : len0 ≤ k := by omega
      have HL := Lib.hid L; clear L
      have HJ := Lib.hid J; clear J
      have hkm : k ≤ 60 := by omega
      have t0 := HJ.out.ok.t0
      have t1 := HJ.out.ok.t1
      clear hlt hg
      go_wp2_with fail
      refine (pool_Total b mb _ _ _ HL.out.pool).mono ?_
      rintro e w4 ⟨rfl, rfl⟩
      go_wp2_with fail
      refine (pool_Join A S b mb _ q 4 other _ (HE.out.below HL.out.below) h2 h7 h8 HL.out.pool (by unfold maxLen; omega)).mono ?_
      rintro e w5 ⟨rfl, k5⟩
      by_cases hc : (q.joinOp 4 other).1 = 0
      · obtain ⟨v, q2, hl, hv, ht2, hw2, J2⟩ := alone_back HJ.out (p := 4) (n := other) (by decide) (by decide) hc
        have HL5 := Lib.hid (HL.out.step k5)
        rw [hc, ev_nil]
        have HLv := Lib.hid hl
        have HJ2 := Lib.hid J2
        have HW2 := Lib.hid hw2
        clear k5 hc hl hw2 J2 HJ
        go_wp2_with fail
        refine (pool_Leave A S b mb _ _ 4 _ (HE.out.below HL5.out.below) h2 h4 HL5.out.pool (by unfold maxLen; omega)).mono ?_
        rintro e w6 ⟨rfl, k6⟩
        rw [HLv.out] at k6 ⊢
        have HL6 := Lib.hid (HL5.out.step k6)
        clear k6 HL5 HL HLv
        rw [ev_nil]
        have u0 := HJ2.out.ok.t0
        have u1 := HJ2.out.ok.t1
        have hvv := HJ2.out.value
        rw [hvv] at HW2
        have hw2 := HW2.out
        go_wp2_with fail
        refine (pool_Total b mb _ _ _ HL6.out.pool).mono ?_
        rintro e w7 ⟨rfl, rfl⟩
        have hb1 : (q2.total != q.total + other - v) = false := by rw [← ht2]; exact bne_self_eq_false _
        go_wp2_with fail
        refine (pool_Value A S b mb _ _ 2 _ (HE.out.below HL6.out.below) h2 HL6.out.pool (by decide)).mono ?_
        rintro e w7 ⟨rfl, hd⟩
        have HL7 := Lib.hid (HL6.out.dr hd)
        clear hd
        rw [hvv]
        clear hvv
        go_wp2_with fail
        refine (pool_Leave A S b mb _ _ 2 _ (HE.out.below HL7.out.below) h2 h4 HL7.out.pool (by unfold maxLen; omega)).mono ?_
        rintro e w8 ⟨rfl, k8⟩
        obtain ⟨q3, z1, z2, z3⟩ := alone_end HJ2.out
        rw [z1] at k8 ⊢
        have HL8 := Lib.hid (HL7.out.step k8)
        clear k8 z1
        rw [ev_nil]
        go_wp2_with fail
        refine (pool_Total b mb _ _ _ HL8.out.pool).mono ?_
        rintro e w9 ⟨rfl, rfl⟩
        rw [z2]
        go_wp2_with fail
        refine (pool_All b mb _ _ _ HL8.out.pool).mono ?_
        rintro e w9 ⟨rfl, rfl⟩
        rw [z3]
        go_wp2
        go_ret
        exact ⟨rfl, HL8.out.below⟩
      · have hs := joinOp_stays hc
        rw [hs] at k5
        rw [ev_ne0 A hc]
        have HL7 := Lib.hid (HL.out.step k5)
        clear k5 hs
        go_wp2_with fail
        refine (pool_Leave A S b mb _ _ 2 _ (HE.out.below HL7.out.below) h2 h4 HL7.out.pool (by unfold maxLen; omega)).mono ?_
        rintro e w8 ⟨rfl, k8⟩
        obtain ⟨q3, z1, z2, z3⟩ := alone_end HJ.out
        rw [z1] at k8 ⊢
        have HL8 := Lib.hid (HL7.out.step k8)
        clear k8 z1
        rw [ev_nil]
        go_wp2_with fail
        refine (pool_Total b mb _ _ _ HL8.out.pool).mono ?_
        rintro e w9 ⟨rfl, rfl⟩
        rw [z2]
        go_wp2_with fail
        refine (pool_All b mb _ _ _ HL8.out.pool).mono ?_
        rintro e w9 ⟨rfl, rfl⟩
        rw [z3]
        go_wp2
        go_ret
        exact ⟨rfl, HL8.out.below⟩


set_option maxRecDepth 8000 in
/-- whatever comes -/
theorem alone_all (A : Nat → Addr) (S : List Nat) (n : Int) (a0 : Option Addr) (len0 cap0 : Nat) (l0 : List ActA) (other : Int) (w : World) (hE : Errs A S w) (h2 : 2 ∈ S) (h4 : 4 ∈ S) (h7 : 7 ∈ S) (h8 : 8 ∈ S)
    (R0 : RdR ActA.enc 3 w a0 len0 cap0 l0) :
    Calls Tryd.prog 9 #[.int .i64 n, .slice a0 len0 cap0, .int .i64 other] w fun e w' => e = .returned (.bool true) ∧ Below w.heap.size w w' := by
  by_cases hg : (1 ≤ n ∧ n ≤ 1099511627776) ∧ len0 ≤ 60 ∧ (1 ≤ other ∧ other ≤ 1099511627776)
  · exact alone_walk A S n a0 len0 cap0 l0 other w hE h2 h4 h7 h8 R0 hg.2.1 hg.1.1 hg.1.2 hg.2.2.1 hg.2.2.2
  · have HE := Lib.hid hE; clear hE R0
    have hways : n < 1 ∨ (1 ≤ n ∧ 1099511627776 < n) ∨ (1 ≤ n ∧ n ≤ 1099511627776 ∧ 60 < len0) ∨ (1 ≤ n ∧ n ≤ 1099511627776 ∧ len0 ≤ 60 ∧ other < 1) ∨ (1 ≤ n ∧ n ≤ 1099511627776 ∧ len0 ≤ 60 ∧ 1 ≤ other ∧ 1099511627776 < other) := by omega
    clear hg
    rcases hways with g1 | ⟨g1, g2⟩ | ⟨g1, g2, g3⟩ | ⟨g1, g2, g3, g4⟩ | ⟨g1, g2, g3, g4, g5⟩
    all_goals
      go_enter Tryd.func9, Tryd.ntmps9
      go_wp2_with fail
      refine (law_joined A S _ HE.out h2 h4 h7 h8).mono ?_
      rintro e w0 ⟨rfl, hb0⟩
      go_wp2
      go_ret
      exact ⟨rfl, hb0⟩
end Go.Proofs.YtajnfkmkombajaaDoor
