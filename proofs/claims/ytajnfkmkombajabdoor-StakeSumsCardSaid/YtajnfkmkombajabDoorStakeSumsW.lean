/- The walk of StakeSums. -/
import Derived.Test.YtajnfkmkombajabDoorStake12
import Derived.Test.YtajnfkmkombajabDoorOpenS
import Derived.Deep.RegionWith
import Derived.Deep.RegionHeld3
import Derived.Deep.DeepCutAuto
import Derived.Deep.CutBlock
import Derived.Deep.LoopGhost
import Derived.Deep.QuietTactic
import Derived.BigQuiet
namespace Go.Proofs.YtajnfkmkombajabDoor
open Go.RowKit Go.Maps

/-- stakes, and an act's own box -/
structure SBox (W : World) (sb : Nat) (F : Nat → Prop) (n : Nat) (s : SS) (g : Nat) (o b N c : Int) (w : World) : Prop where
  su : SU W sb F n s w
  gF : ¬ F g
  gW : W.heap.size ≤ g
  glt : g < w.heap.size
  c1 : w.cell? ⟨g, 1, none⟩ = some (.int .i64 o)
  c2 : w.cell? ⟨g, 2, none⟩ = some (.int .i64 b)
  c3 : w.cell? ⟨g, 3, none⟩ = some (.int .i64 N)
  c4 : w.cell? ⟨g, 4, none⟩ = some (.int .i64 c)
section
variable {W w w' : World} {sb n m g : Nat} {F : Nat → Prop} {s s' : SS} {o b N c : Int}
theorem SBox.of (h : SBox W sb F n s g o b N c w) (k : StakesP sb F m s' w w') : SBox W sb (grownF F w w') m s' g o b N c w' :=
  ⟨h.su.of k, grownF_not h.gF h.glt, h.gW, Nat.lt_of_lt_of_le h.glt k.1.size, by rw [k.1.cell (p := ⟨g, 1, none⟩) h.glt h.gF]; exact h.c1, by rw [k.1.cell (p := ⟨g, 2, none⟩) h.glt h.gF]; exact h.c2,
    by rw [k.1.cell (p := ⟨g, 3, none⟩) h.glt h.gF]; exact h.c3, by rw [k.1.cell (p := ⟨g, 4, none⟩) h.glt h.gF]; exact h.c4⟩
theorem SU.box (h : SU W sb F n s w) (x : Value) (o b N c : Int) (t : TypeId) : SBox W sb F n s w.heap.size o b N c (w.alloc (.cells #[x, .int .i64 o, .int .i64 b, .int .i64 N, .int .i64 c] t)) := by
  have hn := heap_alloc_new w (.cells #[x, .int .i64 o, .int .i64 b, .int .i64 N, .int .i64 c] t)
  refine ⟨h.next ((Below.refl _ w).alloc (Nat.le_refl _) _), fun hf => by have := h.st.lt hf; omega, h.below.size, by simp, ?_, ?_, ?_, ?_⟩
  all_goals (unfold World.cell?; rw [hn]; simp)
end

/-- what the law keeps -/
def SumsR (W : World) (sb len : Nat) (su i : Value) (wr : World) (g : Nat) : Prop :=
  ∃ (t n : Nat) (F : Nat → Prop) (s : SS), SU W sb F n s wr ∧ g + t = len ∧ i = .int .i64 t ∧ su = .int .i64 s.total ∧ s.W.length ≤ t ∧ n ≤ 100 * t

set_option maxRecDepth 8000 in
set_option maxHeartbeats 4000000 in
theorem sums_walk (A : Nat → Addr) (a0 : Option Addr) (len0 cap0 : Nat) (l0 : List ActS) (w : World) (S : List Nat) (hE : Errs A S w) (m2 : 2 ∈ S) (m4 : 4 ∈ S) (m5 : 5 ∈ S) (m6 : 6 ∈ S) (m7 : 7 ∈ S) (m8 : 8 ∈ S) (R0 : RdR ActS.enc 5 w a0 len0 cap0 l0) (hwf : ∀ x ∈ l0, x.wf) (hl : len0 ≤ 80) :
    Calls Tryd.prog 13 #[.slice a0 len0 cap0] w fun e w' => e = .returned (.bool true) ∧ Below w.heap.size w w' := by
  have HE := Lib.hid hE; clear hE
  have HR0 := Lib.hid R0; clear R0
  have HWF := Lib.hid hwf; clear hwf
  have d1 : decide ((80 : Int) < (len0 : Int)) = false := by simp; omega
  go_enter Tryd.func13, Tryd.ntmps13
  go_wp2_with fail
  refine (law_staked A S _ HE.out m2 m4 m5 m6 m7 m8).mono ?_
  rintro e w0 ⟨rfl, hb0⟩
  go_wp2_with fail
  refine (stake_New _).mono ?_
  rintro e w1 ⟨rfl, hb1, hs1⟩
  have U0 := Lib.hid (show SU w w0.heap.size (fun k => k = w0.heap.size) 0 SS.new w1 from ⟨btrans hb0 hb1, hs1, fun b hb => by rw [hb]; exact hb0.size⟩)
  clear hb1 hs1 hb0
  generalize w0.heap.size = sb at *
  go_wp2_with fail
  go_loopg [5, 6] len0 (fun g su i wr => SumsR w sb len0 su i wr g)
  case atStart => exact ⟨0, 0, _, SS.new, U0.out, rfl, rfl, by rw [SS.new_total], by decide, by omega⟩
  case round =>
    clear U0
    obtain ⟨k, n, F, st, hU, hg, rfl, rfl, hlen, hn⟩ := hrel
    by_cases hlt : k < len0
    · obtain ⟨x, hx⟩ : ∃ x, l0[k]? = some x := ⟨_, List.getElem?_eq_getElem (by rw [HR0.out.size]; exact hlt)⟩
      obtain ⟨bb, off, rfl, hbl, hcs⟩ := (HR0.out.below hU.below).cells k x hx
      obtain ⟨_, xw1, xw2, xw3, xw4⟩ := HWF.out x (List.mem_of_getElem? hx)
      have c0 := hcs 0 (by decide)
      have c1 := hcs 1 (by decide)
      have c2 := hcs 2 (by decide)
      have c3 := hcs 3 (by decide)
      have c4 := hcs 4 (by decide)
      simp only [ActS.enc, List.getElem?_cons_zero, List.getElem?_cons_succ, Nat.add_zero] at c0 c1 c2 c3 c4
      have hG := Lib.hid hg; clear hg hcs hx
      obtain ⟨s, o, b, N, c⟩ := x
      simp only at c0 c1 c2 c3 c4 xw1 xw2 xw3 xw4
      have hok := Lib.hid hU.st.ok
      have hFE := Lib.hid (hU.fe HE.out)
      have hm1 : n + 1 < maxLen := by unfold maxLen; omega
      have hm0 : n < maxLen := by omega
      have hm2 : n + st.W.length < maxLen := by unfold maxLen; omega
      have hm3 : n ≤ 1000000 := by omega
      have hW8 : st.W.length ≤ 8000 := by omega
      have HM := Lib.hid (And.intro hm1 (And.intro hm0 (And.intro hm2 (And.intro hm3 hW8))))
      have HNn := Lib.hid hn; have HLn := Lib.hid hlen
      have HA := Lib.hid (hU.box (.string s) o b N c 120); clear hU hm1 hm0 hm2 hm3 hW8 hn hlen
      have tb := hok.out.total_bd
      have tb1 : st.total ≤ 9223372036854775807 := by have := HLn.out; omega
      have tb0 := tb.1
      clear tb
      go_upto_block 2 with fail
      go_cut [5, 6] (fun s5 s6 wx => s6 = .int .i64 k ∧ ∃ (n' : Nat) (F' : Nat → Prop) (s' : SS), SU w sb F' n' s' wx ∧ s5 = .int .i64 s'.total ∧ s'.W.length ≤ k + 1 ∧ n' ≤ 100 * (k + 1))
      case first =>
        by_cases m20 : (s.toList == [114, 101, 103, 105, 115, 116, 101, 114]) = true
        · have H := Lib.hid (stake_Register A S sb F n st b _ HA.out.su.st (HE.out.below HA.out.su.below) m2 m5)
          have HT := Lib.hid (SS.reg_total hok.out b)
          have e1 := HA.out.c1; have e2 := HA.out.c2; have e3 := HA.out.c3; have e4 := HA.out.c4
          generalize st.total = T0 at *
          go_wp2_with (go_at_call 104; refine H.out.mono ?_; rintro e wa ⟨rfl, ka⟩; have HA2 := Lib.hid (HA.out.of ka); clear ka)
          go_meet
          case rel => exact ⟨rfl, _, _, _, HA2.out.su, by rw [HT.out], by rw [SS.reg_len]; have := HLn.out; omega, by have := HNn.out; omega⟩
        · have n20 : (s.toList == [114, 101, 103, 105, 115, 116, 101, 114]) = false := by simpa using m20
          clear m20
          by_cases m21 : (s.toList == [106, 111, 105, 110]) = true
          · have H := Lib.hid (stake_Join A S sb F n st o b N _ HA.out.su.st (HE.out.below HA.out.su.below) m2 m4 m7 m8 HM.out.2.1)
            obtain ⟨HTy, HTn⟩ := SS.join_total hok.out o b N
            have tb2 := (SS.joinOp_ok hok.out o b N).total_bd
            rw [SS.join_len st o b N] at tb2
            have e1 := HA.out.c1; have e2 := HA.out.c2; have e3 := HA.out.c3; have e4 := HA.out.c4
            by_cases hc : (st.joinOp o b N).1 = 0
            · have ec : ev A (st.joinOp o b N).1 = .nilIface := by rw [hc]; rfl
              have HT := Lib.hid (HTy hc)
              rw [HTy hc] at tb2
              have u1 : 0 ≤ st.total + N := tb2.1
              have u2 : st.total + N ≤ 9223372036854775807 := by have := HLn.out; omega
              clear HTy HTn hc tb2
              generalize st.total = T0 at *
              go_wp2_with (go_at_call 105; refine H.out.mono ?_; rintro e wa ⟨rfl, ka⟩; rw [ec]; have HA2 := Lib.hid (HA.out.of ka); clear ka; have e5 := HA2.out.c3)
              go_meet
              case rel => exact ⟨rfl, _, _, _, HA2.out.su, by rw [HT.out], by rw [SS.join_len]; have := HLn.out; omega, by have := HNn.out; omega⟩
            · have ec : ev A (st.joinOp o b N).1 = .iface 273 (.pointer (some (A (st.joinOp o b N).1))) := ev_some A hc
              have HT := Lib.hid (HTn hc)
              clear HTy HTn hc tb2
              generalize st.total = T0 at *
              go_wp2_with (go_at_call 105; refine H.out.mono ?_; rintro e wa ⟨rfl, ka⟩; rw [ec]; have HA2 := Lib.hid (HA.out.of ka); clear ka)
              go_meet
              case rel => exact ⟨rfl, _, _, _, HA2.out.su, by rw [HT.out], by rw [SS.join_len]; have := HLn.out; omega, by have := HNn.out; omega⟩
          · have n21 : (s.toList == [106, 111, 105, 110]) = false := by simpa using m21
            clear m21
            by_cases m22 : (s.toList == [108, 101, 97, 118, 101]) = true
            · have H := Lib.hid (stake_Leave A S sb F n st o b N c _ HA.out.su.st (HE.out.below HA.out.su.below) m2 m4 m6 m7 m8 HM.out.1 xw4)
              have HT := Lib.hid (SS.leave_total hok.out o b N c)
              have hll := SS.leave_len st o b N c
              have e1 := HA.out.c1; have e2 := HA.out.c2; have e3 := HA.out.c3; have e4 := HA.out.c4
              generalize st.total = T0 at *
              go_wp2_with (go_at_call 106; refine H.out.mono ?_; rintro e wa ⟨rfl, ka⟩; have HA2 := Lib.hid (HA.out.of ka); clear ka)
              go_meet
              case rel => exact ⟨rfl, _, _, _, HA2.out.su, by rw [HT.out], by have := HLn.out; omega, by have := HNn.out; omega⟩
            · have n22 : (s.toList == [108, 101, 97, 118, 101]) = false := by simpa using m22
              clear m22
              by_cases m23 : (s.toList == [102, 114, 101, 101]) = true
              · have H := Lib.hid (stake_Free A S sb n F st o c _ HA.out.su.st (HE.out.below HA.out.su.below) m2 m4 hFE.out HM.out.2.2.2.2 HM.out.2.2.1)
                obtain ⟨ht, hp, hz⟩ := SS.free_total hok.out o c
                have tb2 := (SS.freeOp_ok hok.out o c).total_bd
                rw [ht] at tb2
                have e1 := HA.out.c1; have e2 := HA.out.c2; have e3 := HA.out.c3; have e4 := HA.out.c4
                have HT := Lib.hid ht
                by_cases hc : (st.freeOp o c).2.1 = 0
                · have ec : ev A (st.freeOp o c).2.1 = .nilIface := by rw [hc]; rfl
                  generalize hv : (st.freeOp o c).1 = v at *
                  have u1 : 0 ≤ st.total - v := tb2.1
                  have u2 : st.total - v ≤ 9223372036854775807 := by omega
                  have u3 : v ≤ 9223372036854775807 := by omega
                  clear ht hz hc tb2 hv
                  generalize st.total = T0 at *
                  go_wp2_with (go_at_call 107; refine H.out.mono ?_; rintro e wa ⟨rfl, ka⟩; rw [ec]; have HA2 := Lib.hid (HA.out.of ka); clear ka)
                  go_meet
                  case rel => exact ⟨rfl, _, _, _, HA2.out.su, by rw [HT.out], by rw [SS.free_len]; have := HLn.out; omega, by have := HNn.out; have := HLn.out; omega⟩
                · have ec : ev A (st.freeOp o c).2.1 = .iface 273 (.pointer (some (A (st.freeOp o c).2.1))) := ev_some A hc
                  have hv0 := hz hc
                  rw [hv0] at H HT
                  clear ht hz hc tb2 hv0 hp
                  generalize st.total = T0 at *
                  go_wp2_with (go_at_call 107; refine H.out.mono ?_; rintro e wa ⟨rfl, ka⟩; rw [ec]; have HA2 := Lib.hid (HA.out.of ka); clear ka)
                  go_meet
                  case rel => exact ⟨rfl, _, _, _, HA2.out.su, by rw [HT.out, Int.sub_zero], by rw [SS.free_len]; have := HLn.out; omega, by have := HNn.out; have := HLn.out; omega⟩
              · have n23 : (s.toList == [102, 114, 101, 101]) = false := by simpa using m23
                clear m23
                by_cases m24 : (s.toList == [97, 100, 100]) = true
                · have H := Lib.hid (stake_Add A S sb F n st b N _ HA.out.su.st (HE.out.below HA.out.su.below) m2 m4)
                  obtain ⟨HTy, HTn⟩ := SS.add_total hok.out b N
                  have tb2 := (SS.addOp_ok hok.out b N).total_bd
                  rw [SS.add_len st b N] at tb2
                  have e1 := HA.out.c1; have e2 := HA.out.c2; have e3 := HA.out.c3; have e4 := HA.out.c4
                  by_cases hc : (st.addOp b N).1 = 0
                  · have ec : ev A (st.addOp b N).1 = .nilIface := by rw [hc]; rfl
                    have HT := Lib.hid (HTy hc)
                    rw [HTy hc] at tb2
                    have u1 : 0 ≤ st.total + N := tb2.1
                    have u2 : st.total + N ≤ 9223372036854775807 := by have := HLn.out; omega
                    clear HTy HTn hc tb2
                    generalize st.total = T0 at *
                    go_wp2_with (go_at_call 108; refine H.out.mono ?_; rintro e wa ⟨rfl, ka⟩; rw [ec]; have HA2 := Lib.hid (HA.out.of ka); clear ka; have e5 := HA2.out.c3)
                    go_meet
                    case rel => exact ⟨rfl, _, _, _, HA2.out.su, by rw [HT.out], by rw [SS.add_len]; have := HLn.out; omega, by have := HNn.out; omega⟩
                  · have ec : ev A (st.addOp b N).1 = .iface 273 (.pointer (some (A (st.addOp b N).1))) := ev_some A hc
                    have HT := Lib.hid (HTn hc)
                    clear HTy HTn hc tb2
                    generalize st.total = T0 at *
                    go_wp2_with (go_at_call 108; refine H.out.mono ?_; rintro e wa ⟨rfl, ka⟩; rw [ec]; have HA2 := Lib.hid (HA.out.of ka); clear ka)
                    go_meet
                    case rel => exact ⟨rfl, _, _, _, HA2.out.su, by rw [HT.out], by rw [SS.add_len]; have := HLn.out; omega, by have := HNn.out; omega⟩
                · have n24 : (s.toList == [97, 100, 100]) = false := by simpa using m24
                  clear m24
                  have H := Lib.hid (stake_Slash A S sb n F st b c N _ HA.out.su.st (HE.out.below HA.out.su.below) m2 m4 hFE.out HM.out.2.2.2.2 HM.out.2.2.2.1)
                  obtain ⟨ht, hp, hz⟩ := SS.slash_total hok.out b c N
                  have tb2 := (SS.slashOp_ok hok.out b c N).total_bd
                  rw [ht] at tb2
                  have e1 := HA.out.c1; have e2 := HA.out.c2; have e3 := HA.out.c3; have e4 := HA.out.c4
                  have HT := Lib.hid ht
                  by_cases hc : (st.slashOp b c N).2.1 = 0
                  · have ec : ev A (st.slashOp b c N).2.1 = .nilIface := by rw [hc]; rfl
                    generalize hv : (st.slashOp b c N).1 = v at *
                    have u1 : 0 ≤ st.total - v := tb2.1
                    have u2 : st.total - v ≤ 9223372036854775807 := by omega
                    have u3 : v ≤ 9223372036854775807 := by omega
                    clear ht hz hc tb2 hv
                    generalize st.total = T0 at *
                    go_wp2_with (go_at_call 109; refine H.out.mono ?_; rintro e wa ⟨rfl, ka⟩; rw [ec]; have HA2 := Lib.hid (HA.out.of ka); clear ka)
                    go_meet
                    case rel => exact ⟨rfl, _, _, _, HA2.out.su, by rw [HT.out], by rw [SS.slash_len]; have := HLn.out; omega, by have := HNn.out; have := HLn.out; omega⟩
                  · have ec : ev A (st.slashOp b c N).2.1 = .iface 273 (.pointer (some (A (st.slashOp b c N).2.1))) := ev_some A hc
                    have hv0 := hz hc
                    rw [hv0] at H HT
                    clear ht hz hc tb2 hv0 hp
                    generalize st.total = T0 at *
                    go_wp2_with (go_at_call 109; refine H.out.mono ?_; rintro e wa ⟨rfl, ka⟩; rw [ec]; have HA2 := Lib.hid (HA.out.of ka); clear ka)
                    go_meet
                    case rel => exact ⟨rfl, _, _, _, HA2.out.su, by rw [HT.out, Int.sub_zero], by rw [SS.slash_len]; have := HLn.out; omega, by have := HNn.out; have := HLn.out; omega⟩
      case rest =>
        clear HA
        obtain ⟨rfl, n', F', s', hU2, rfl, hl2, hn2⟩ := hcut
        have HU2 := Lib.hid hU2
        have HTT := Lib.hid (st_Total hU2.st (by omega))
        have ne0 : (s'.total != s'.total) = false := bne_self_eq_false _
        clear hU2
        have HL2 := Lib.hid hl2; have HN2 := Lib.hid hn2
        clear hl2 hn2
        generalize hT : s'.total = T1 at *
        have HTe := Lib.hid hT; clear hT
        go_wp2_with (go_at_call 110; refine HTT.out.mono ?_; rintro e w5 ⟨rfl, hb5⟩; have HU3 := Lib.hid (HU2.out.next hb5); clear hb5)
        have hg := hG.out
        go_roundg (len0 - (k + 1))
        case measure => omega
        case rel => exact ⟨k + 1, n', F', s', HU3.out, by omega, by go_num, by rw [HTe.out], HL2.out, HN2.out⟩
    · have hle : len0 ≤ k := by omega
      have HU := Lib.hid hU.below
      have hG := Lib.hid hg
      clear hlt hU hg hn hlen
      go_wp2_with fail
      go_ret
      exact ⟨rfl, HU.out⟩

set_option maxRecDepth 8000 in
theorem sums_all (A : Nat → Addr) (a0 : Option Addr) (len0 cap0 : Nat) (l0 : List ActS) (w : World) (S : List Nat) (hE : Errs A S w) (m2 : 2 ∈ S) (m4 : 4 ∈ S) (m5 : 5 ∈ S) (m6 : 6 ∈ S) (m7 : 7 ∈ S) (m8 : 8 ∈ S) (R0 : RdR ActS.enc 5 w a0 len0 cap0 l0) (hwf : ∀ x ∈ l0, x.wf) :
    Calls Tryd.prog 13 #[.slice a0 len0 cap0] w fun e w' => e = .returned (.bool true) ∧ Below w.heap.size w w' := by
  by_cases hl : len0 ≤ 80
  · exact sums_walk A a0 len0 cap0 l0 w S hE m2 m4 m5 m6 m7 m8 R0 hwf hl
  · have HE := Lib.hid hE; clear hE R0 hwf
    have d1 : decide ((80 : Int) < (len0 : Int)) = true := by simp; omega
    go_enter Tryd.func13, Tryd.ntmps13
    go_wp2_with fail
    refine (law_staked A S _ HE.out m2 m4 m5 m6 m7 m8).mono ?_
    rintro e w0 ⟨rfl, hb0⟩
    go_wp2_with fail
    go_ret
    exact ⟨rfl, hb0⟩
end Go.Proofs.YtajnfkmkombajabDoor
