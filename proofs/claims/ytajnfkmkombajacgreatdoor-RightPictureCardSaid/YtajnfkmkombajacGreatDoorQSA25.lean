/-
  The walk of an act on stakes and the document's stakes.
  The walk of StakeActs.
  From a row's cell on listed sentinels (all ten, and errors.errorType) to what the walks ask.
  A row that says 'leaving', of a function that starts nothing itself; its tied card.
  Package court in memory: Accuse where nothing is wrong; a copy of cases; Due.
-/
import Derived.Test.YtajnfkmkombajacGreatDoorQSA23
import Derived.Test.YtajnfkmkombajacGreatDoorQSA24
import Derived.Deep.RegionWith
import Derived.Deep.RegionHeld3
import Derived.Deep.LoopGhost
import Derived.Deep.QuietTactic
import Derived.BigQuiet
import Derived.Test.YtajnfkmkombajacGreatDoorQSA01
import Derived.LaidSub
import Derived.Conc.Holds
import Derived.Leaving
import Derived.SevenTiedAt
import Derived.Test.YtajnfkmkombajacGreatDoorQSA14
import Derived.Deep.RegionLaw
import Derived.Deep.AppendLies
import Derived.Lib.Walk
import Derived.Lib.SliceRun
set_option linter.unusedVariables false
set_option linter.unusedSimpArgs false
set_option linter.unusedVariables false
namespace Go.Proofs.YtajnfkmkombajacGreatDoor
open Go.RowKit Go.Maps

/-- what an act leaves of stakes -/
def SS.actS (s : SS) (a : ActS) : SS :=
  if (a.kind.toList == [114, 101, 103, 105, 115, 116, 101, 114]) = true then (s.regOp a.baker).2
  else if (a.kind.toList == [106, 111, 105, 110]) = true then (s.joinOp a.owner a.baker a.n).2
  else if (a.kind.toList == [108, 101, 97, 118, 101]) = true then (s.leaveOp a.owner a.baker a.n a.cycle).2
  else if (a.kind.toList == [102, 114, 101, 101]) = true then (s.freeOp a.owner a.cycle).2.2
  else if (a.kind.toList == [97, 100, 100]) = true then (s.addOp a.baker a.n).2
  else (s.slashOp a.baker a.cycle a.n).2.2
theorem SS.actS_eq (s : SS) (a : ActS) : s.actS a =
  if (a.kind.toList == [114, 101, 103, 105, 115, 116, 101, 114]) = true then (s.regOp a.baker).2
  else if (a.kind.toList == [106, 111, 105, 110]) = true then (s.joinOp a.owner a.baker a.n).2
  else if (a.kind.toList == [108, 101, 97, 118, 101]) = true then (s.leaveOp a.owner a.baker a.n a.cycle).2
  else if (a.kind.toList == [102, 114, 101, 101]) = true then (s.freeOp a.owner a.cycle).2.2
  else if (a.kind.toList == [97, 100, 100]) = true then (s.addOp a.baker a.n).2
  else (s.slashOp a.baker a.cycle a.n).2.2 := rfl
theorem SS.actS_len (s : SS) (a : ActS) : (s.actS a).W.length ≤ s.W.length + 1 := by
  have hr : (s.regOp a.baker).2.W = s.W := by unfold SS.regOp; repeat' split
                                              all_goals rfl
  unfold SS.actS
  split
  · rw [hr]; omega
  · split
    · rw [SS.join_len]; omega
    · split
      · exact SS.leave_len _ _ _ _ _
      · split
        · rw [SS.free_len]; omega
        · split
          · rw [SS.add_len]; omega
          · rw [SS.slash_len]; omega

set_option maxRecDepth 8000 in
set_option maxHeartbeats 4000000 in
theorem law2_act (A : Nat → Addr) (W : World) (sb n : Nat) (Fs : Nat → Prop) (rb : Nat) (Fr : Nat → Prop) (s : SS) (w : World) (a : ActS) (h : STwo W sb n Fs rb Fr s s w) (ha : a.wf) (hS : Sents A W) (hW : s.W.length ≤ 8000) (hn : n ≤ 900000) :
    Calls Tryz.prog 16 #[.pointer (some ⟨sb, 0, none⟩), .pointer (some ⟨rb, 0, none⟩), .agg a.enc.toArray] w fun e w' => e = .returned (.bool true) ∧ ∃ n' Fs' Fr', n' ≤ n + 2 + s.W.length ∧ STwo W sb n' Fs' rb Fr' (s.actS a) (s.actS a) w' := by
  have m2 : (2 : Nat) ∈ [1, 2, 3, 4, 5, 6, 7, 8, 9, 10] := by decide
  have m4 : (4 : Nat) ∈ [1, 2, 3, 4, 5, 6, 7, 8, 9, 10] := by decide
  have m5 : (5 : Nat) ∈ [1, 2, 3, 4, 5, 6, 7, 8, 9, 10] := by decide
  have m6 : (6 : Nat) ∈ [1, 2, 3, 4, 5, 6, 7, 8, 9, 10] := by decide
  have m7 : (7 : Nat) ∈ [1, 2, 3, 4, 5, 6, 7, 8, 9, 10] := by decide
  have m8 : (8 : Nat) ∈ [1, 2, 3, 4, 5, 6, 7, 8, 9, 10] := by decide
  have HD := Lib.hid (SS.actS_eq s a)
  have HS := Lib.hid hS
  have hbx := h.box a 30
  have hcw := ha.2.2.2.2
  clear h hS ha
  obtain ⟨k, o, b, N, c⟩ := a
  unfold ActS.enc
  simp only at hbx HD hcw ⊢
  obtain ⟨wb, hwb⟩ : ∃ wb, w.alloc (.cells #[.string k, .int .i64 o, .int .i64 b, .int .i64 N, .int .i64 c] 30) = wb := ⟨_, rfl⟩
  rw [hwb] at hbx
  have HA := Lib.hid hbx; clear hbx
  have c0 := HA.out.c0
  simp only at c0
  generalize s.actS ⟨k, o, b, N, c⟩ = res at *
  have HC := Lib.hid hcw; clear hcw
  have hml : n + 1 < maxLen := by unfold maxLen; omega
  have hmw : n + s.W.length < maxLen := by unfold maxLen; omega
  have HM := Lib.hid (And.intro hml hmw); clear hml hmw
  go_enter Tryz.func16, Tryz.ntmps16
  by_cases m20 : (k.toList == [114, 101, 103, 105, 115, 116, 101, 114]) = true
  · rw [if_pos m20] at HD
    go_wp2_with fail
    go_region_held3 (fun w' => w'.cell? ⟨w.heap.size, 1, none⟩ = some (.int .i64 o) ∧ w'.cell? ⟨w.heap.size, 2, none⟩ = some (.int .i64 b) ∧ w'.cell? ⟨w.heap.size, 3, none⟩ = some (.int .i64 N) ∧ w'.cell? ⟨w.heap.size, 4, none⟩ = some (.int .i64 c)) (first | exact ⟨H1.out.c1, H1.out.c2, H1.out.c3, H1.out.c4⟩ | exact ⟨H2.out.c1, H2.out.c2, H2.out.c3, H2.out.c4⟩ | exact ⟨H3.out.c1, H3.out.c2, H3.out.c3, H3.out.c4⟩ | exact ⟨HA.out.c1, HA.out.c2, HA.out.c3, HA.out.c4⟩)
      (first
        | (go_at_call 64; refine (stake_Register A [1, 2, 3, 4, 5, 6, 7, 8, 9, 10] sb Fs n s b _ (HA.out.drewN 1).two.law (HS.out.below (HA.out.drewN 1).two.below).errs m2 m5).mono ?_; rintro e wa ⟨rfl, ka⟩; have H1 := Lib.hid ((HA.out.drewN 1).lawed ka))
        | (go_at_call 68; refine (refs_Register rb Fr s _ b H1.out.two.doc).mono ?_; rintro e wc ⟨rfl, kb⟩; have H2 := Lib.hid (H1.out.doced kb))
        | (go_at_call 67; refine (law2_coded A _ SS.reg10 _ (HS.out.below H2.out.two.below)).mono ?_; rintro e wd ⟨rfl, kc⟩; have H3 := Lib.hid (H2.out.next kc)))
    go_wp2_with fail
    go_ret
    exact ⟨rfl, by rw [HD.out]; exact ⟨_, _, _, by omega, H3.out.two⟩⟩
  · rw [if_neg m20] at HD
    have n20 : (k.toList == [114, 101, 103, 105, 115, 116, 101, 114]) = false := by simpa using m20
    clear m20
    by_cases m21 : (k.toList == [106, 111, 105, 110]) = true
    · rw [if_pos m21] at HD
      go_wp2_with fail
      go_region_held3 (fun w' => w'.cell? ⟨w.heap.size, 1, none⟩ = some (.int .i64 o) ∧ w'.cell? ⟨w.heap.size, 2, none⟩ = some (.int .i64 b) ∧ w'.cell? ⟨w.heap.size, 3, none⟩ = some (.int .i64 N) ∧ w'.cell? ⟨w.heap.size, 4, none⟩ = some (.int .i64 c)) (first | exact ⟨H1.out.c1, H1.out.c2, H1.out.c3, H1.out.c4⟩ | exact ⟨H2.out.c1, H2.out.c2, H2.out.c3, H2.out.c4⟩ | exact ⟨H3.out.c1, H3.out.c2, H3.out.c3, H3.out.c4⟩ | exact ⟨HA.out.c1, HA.out.c2, HA.out.c3, HA.out.c4⟩)
        (first
          | (go_at_call 65; refine (stake_Join A [1, 2, 3, 4, 5, 6, 7, 8, 9, 10] sb Fs n s o b N _ (HA.out.drewN 1).two.law (HS.out.below (HA.out.drewN 1).two.below).errs m2 m4 m7 m8 (by have := HM.out.1; omega)).mono ?_; rintro e wa ⟨rfl, ka⟩; have H1 := Lib.hid ((HA.out.drewN 1).lawed ka))
          | (go_at_call 69; refine (refs_Join rb Fr s _ o b N H1.out.two.doc).mono ?_; rintro e wc ⟨rfl, kb⟩; have H2 := Lib.hid (H1.out.doced kb))
          | (go_at_call 67; refine (law2_coded A _ SS.join10 _ (HS.out.below H2.out.two.below)).mono ?_; rintro e wd ⟨rfl, kc⟩; have H3 := Lib.hid (H2.out.next kc)))
      go_wp2_with fail
      go_ret
      exact ⟨rfl, by rw [HD.out]; exact ⟨_, _, _, by omega, H3.out.two⟩⟩
    · rw [if_neg m21] at HD
      have n21 : (k.toList == [106, 111, 105, 110]) = false := by simpa using m21
      clear m21
      by_cases m22 : (k.toList == [108, 101, 97, 118, 101]) = true
      · rw [if_pos m22] at HD
        go_wp2_with fail
        go_region_held3 (fun w' => w'.cell? ⟨w.heap.size, 1, none⟩ = some (.int .i64 o) ∧ w'.cell? ⟨w.heap.size, 2, none⟩ = some (.int .i64 b) ∧ w'.cell? ⟨w.heap.size, 3, none⟩ = some (.int .i64 N) ∧ w'.cell? ⟨w.heap.size, 4, none⟩ = some (.int .i64 c)) (first | exact ⟨H1.out.c1, H1.out.c2, H1.out.c3, H1.out.c4⟩ | exact ⟨H2.out.c1, H2.out.c2, H2.out.c3, H2.out.c4⟩ | exact ⟨H3.out.c1, H3.out.c2, H3.out.c3, H3.out.c4⟩ | exact ⟨HA.out.c1, HA.out.c2, HA.out.c3, HA.out.c4⟩)
          (first
            | (go_at_call 66; refine (stake_Leave A [1, 2, 3, 4, 5, 6, 7, 8, 9, 10] sb Fs n s o b N c _ (HA.out.drewN 1).two.law (HS.out.below (HA.out.drewN 1).two.below).errs m2 m4 m6 m7 m8 HM.out.1 HC.out).mono ?_; rintro e wa ⟨rfl, ka⟩; have H1 := Lib.hid ((HA.out.drewN 1).lawed ka))
            | (go_at_call 70; refine (refs_Leave rb Fr s _ o b N c H1.out.two.doc hW).mono ?_; rintro e wc ⟨rfl, kb⟩; have H2 := Lib.hid (H1.out.doced kb))
            | (go_at_call 67; refine (law2_coded A _ SS.leave10 _ (HS.out.below H2.out.two.below)).mono ?_; rintro e wd ⟨rfl, kc⟩; have H3 := Lib.hid (H2.out.next kc)))
        go_wp2_with fail
        go_ret
        exact ⟨rfl, by rw [HD.out]; exact ⟨_, _, _, by omega, H3.out.two⟩⟩
      · rw [if_neg m22] at HD
        have n22 : (k.toList == [108, 101, 97, 118, 101]) = false := by simpa using m22
        clear m22
        by_cases m23 : (k.toList == [102, 114, 101, 101]) = true
        · rw [if_pos m23] at HD
          have e1 := HA.out.c1; have e2 := HA.out.c2; have e3 := HA.out.c3; have e4 := HA.out.c4
          simp only at e1 e2 e3 e4
          go_wp2_with fail
          refine (stake_Free A [1, 2, 3, 4, 5, 6, 7, 8, 9, 10] sb n Fs s o c _ HA.out.two.law (HS.out.below HA.out.two.below).errs m2 m4 (HA.out.two.fe HS.out.errs) hW HM.out.2).mono ?_
          rintro e wa ⟨rfl, ka⟩
          have H1 := Lib.hid (HA.out.lawed ka); clear ka e1 e2 e3 e4
          have e1 := H1.out.c1; have e2 := H1.out.c2; have e3 := H1.out.c3; have e4 := H1.out.c4
          simp only at e1 e2 e3 e4
          go_wp2_with fail
          refine (refs_Free rb Fr s _ o c H1.out.two.doc hW).mono ?_
          rintro e wc ⟨rfl, kb⟩
          have H2 := Lib.hid (H1.out.doced kb); clear kb e1 e2 e3 e4
          have hvv : ((s.freeOp o c).1 == (s.freeOp o c).1) = true := beq_self_eq_true _
          go_wp2_with fail
          refine (law2_coded A _ SS.free10 _ (HS.out.below H2.out.two.below)).mono ?_
          rintro e wd ⟨rfl, kc⟩
          have H3 := Lib.hid (H2.out.next kc); clear kc
          go_wp2_with fail
          go_ret
          exact ⟨rfl, by rw [HD.out]; exact ⟨_, _, _, by omega, H3.out.two⟩⟩
        · rw [if_neg m23] at HD
          have n23 : (k.toList == [102, 114, 101, 101]) = false := by simpa using m23
          clear m23
          by_cases m24 : (k.toList == [97, 100, 100]) = true
          · rw [if_pos m24] at HD
            go_wp2_with fail
            go_region_held3 (fun w' => w'.cell? ⟨w.heap.size, 1, none⟩ = some (.int .i64 o) ∧ w'.cell? ⟨w.heap.size, 2, none⟩ = some (.int .i64 b) ∧ w'.cell? ⟨w.heap.size, 3, none⟩ = some (.int .i64 N) ∧ w'.cell? ⟨w.heap.size, 4, none⟩ = some (.int .i64 c)) (first | exact ⟨H1.out.c1, H1.out.c2, H1.out.c3, H1.out.c4⟩ | exact ⟨H2.out.c1, H2.out.c2, H2.out.c3, H2.out.c4⟩ | exact ⟨H3.out.c1, H3.out.c2, H3.out.c3, H3.out.c4⟩ | exact ⟨HA.out.c1, HA.out.c2, HA.out.c3, HA.out.c4⟩)
              (first
                | (go_at_call 73; refine (stake_Add A [1, 2, 3, 4, 5, 6, 7, 8, 9, 10] sb Fs n s b N _ (HA.out.drewN 1).two.law (HS.out.below (HA.out.drewN 1).two.below).errs m2 m4).mono ?_; rintro e wa ⟨rfl, ka⟩; have H1 := Lib.hid ((HA.out.drewN 1).lawed ka))
                | (go_at_call 74; refine (refs_Add rb Fr s _ b N H1.out.two.doc).mono ?_; rintro e wc ⟨rfl, kb⟩; have H2 := Lib.hid (H1.out.doced kb))
                | (go_at_call 67; refine (law2_coded A _ SS.add10 _ (HS.out.below H2.out.two.below)).mono ?_; rintro e wd ⟨rfl, kc⟩; have H3 := Lib.hid (H2.out.next kc)))
            go_wp2_with fail
            go_ret
            exact ⟨rfl, by rw [HD.out]; exact ⟨_, _, _, by omega, H3.out.two⟩⟩
          · rw [if_neg m24] at HD
            have n24 : (k.toList == [97, 100, 100]) = false := by simpa using m24
            clear m24
            have e1 := HA.out.c1; have e2 := HA.out.c2; have e3 := HA.out.c3; have e4 := HA.out.c4
            simp only at e1 e2 e3 e4
            go_wp2_with fail
            refine (stake_Slash A [1, 2, 3, 4, 5, 6, 7, 8, 9, 10] sb n Fs s b c N _ HA.out.two.law (HS.out.below HA.out.two.below).errs m2 m4 (HA.out.two.fe HS.out.errs) hW (by omega)).mono ?_
            rintro e wa ⟨rfl, ka⟩
            have H1 := Lib.hid (HA.out.lawed ka); clear ka e1 e2 e3 e4
            have e1 := H1.out.c1; have e2 := H1.out.c2; have e3 := H1.out.c3; have e4 := H1.out.c4
            simp only at e1 e2 e3 e4
            go_wp2_with fail
            refine (refs_Slash rb Fr s _ b c N H1.out.two.doc hW).mono ?_
            rintro e wc ⟨rfl, kb⟩
            have H2 := Lib.hid (H1.out.doced kb); clear kb e1 e2 e3 e4
            have hvv : ((s.slashOp b c N).1 == (s.slashOp b c N).1) = true := beq_self_eq_true _
            go_wp2_with fail
            refine (law2_coded A _ SS.slash10 _ (HS.out.below H2.out.two.below)).mono ?_
            rintro e wd ⟨rfl, kc⟩
            have H3 := Lib.hid (H2.out.next kc); clear kc
            go_wp2_with fail
            go_ret
            exact ⟨rfl, by rw [HD.out]; exact ⟨_, _, _, by omega, H3.out.two⟩⟩
end Go.Proofs.YtajnfkmkombajacGreatDoor
namespace Go.Proofs.YtajnfkmkombajacGreatDoor
open Go.RowKit Go.Maps

theorem STwo.total {W w : World} {sb n rb : Nat} {Fs Fr : Nat → Prop} {p q : SS} (h : STwo W sb n Fs rb Fr p q w) (hW : q.W.length ≤ 8000) : Calls Tryz.prog 18 #[.pointer (some ⟨rb, 0, none⟩)] w fun e w' => e = .returned (.int .i64 q.total) ∧ w = w' := by
  obtain ⟨L, wv, hL, -, -⟩ := h.doc
  exact refs_Total rb L wv q w hL hW
theorem STwo.is {W w : World} {sb n rb : Nat} {Fs Fr : Nat → Prop} {p q : SS} (h : STwo W sb n Fs rb Fr p q w) (k : Int) : Calls Tryz.prog 20 #[.pointer (some ⟨rb, 0, none⟩), .int .i64 k] w fun e w' => e = .returned (.bool (q.is k)) ∧ w = w' := by
  obtain ⟨L, wv, hL, -, -⟩ := h.doc
  exact refs_Is rb L wv q k w hL
theorem STwo.staked {W w : World} {sb n rb : Nat} {Fs Fr : Nat → Prop} {p q : SS} (h : STwo W sb n Fs rb Fr p q w) (k : Int) : Calls Tryz.prog 22 #[.pointer (some ⟨rb, 0, none⟩), .int .i64 k] w fun e w' => e = .returned (.int .i64 (q.staked k)) ∧ w = w' := by
  obtain ⟨L, wv, hL, -, -⟩ := h.doc
  exact refs_Staked rb L wv q w k hL
theorem STwo.value {W w : World} {sb n rb : Nat} {Fs Fr : Nat → Prop} {p q : SS} (h : STwo W sb n Fs rb Fr p q w) (o k : Int) : Calls Tryz.prog 24 #[.pointer (some ⟨rb, 0, none⟩), .int .i64 o, .int .i64 k] w fun e w' => e = .returned (.int .i64 (q.value o k)) ∧ Dr w w' := by
  obtain ⟨L, wv, hL, -, -⟩ := h.doc
  exact refs_Value rb L wv q w o k hL
theorem STwo.waits {W w : World} {sb n rb : Nat} {Fs Fr : Nat → Prop} {p q : SS} (h : STwo W sb n Fs rb Fr p q w) (o k c : Int) : Calls Tryz.prog 26 #[.pointer (some ⟨rb, 0, none⟩), .int .i64 o, .int .i64 k, .int .i64 c] w fun e w' => e = .returned (.int .i64 (q.waits o k c)) ∧ Dr w w' := by
  obtain ⟨L, wv, hL, -, -⟩ := h.doc
  exact refs_Waits rb L wv q w o k c hL
theorem two_new {w w1 w2 : World} {rb : Nat} (h1 : Below w.heap.size w w1) (s1 : StakesAt w.heap.size (fun k => k = w.heap.size) 0 SS.new w1) (h2 : Below w1.heap.size w1 w2) (s2 : RStAt rb (fun b => w1.heap.size ≤ b ∧ b < w2.heap.size) SS.new w2) :
    STwo w w.heap.size 0 (fun k => k = w.heap.size) rb (fun b => w1.heap.size ≤ b ∧ b < w2.heap.size) SS.new SS.new w2 := by
  have hz := h1.size
  have hl := s1.lt (b := w.heap.size) rfl
  refine ⟨s1.below h2, s2, btrans h1 h2, fun b hb => ?_, fun b hb hr => ?_⟩
  · rcases hb with hb | hb <;> omega
  · omega

set_option maxRecDepth 8000 in
set_option maxHeartbeats 2000000 in
theorem sacts_walk (A : Nat → Addr) (a0 : Option Addr) (len0 cap0 : Nat) (l0 : List ActS) (w : World) (hS : Sents A w) (R0 : RdR ActS.enc 5 w a0 len0 cap0 l0) (hwf : ∀ x ∈ l0, x.wf) (hl : len0 ≤ 80) :
    Calls Tryz.prog 3 #[.slice a0 len0 cap0] w fun e w' => e = .returned (.bool true) ∧ Below w.heap.size w w' := by
  have HS := Lib.hid hS; clear hS
  have HR0 := Lib.hid R0; clear R0
  have HWF := Lib.hid hwf; clear hwf
  have m2 : (2 : Nat) ∈ [1, 2, 3, 4, 5, 6, 7, 8, 9, 10] := by decide
  have m4 : (4 : Nat) ∈ [1, 2, 3, 4, 5, 6, 7, 8, 9, 10] := by decide
  have m5 : (5 : Nat) ∈ [1, 2, 3, 4, 5, 6, 7, 8, 9, 10] := by decide
  have m6 : (6 : Nat) ∈ [1, 2, 3, 4, 5, 6, 7, 8, 9, 10] := by decide
  have m7 : (7 : Nat) ∈ [1, 2, 3, 4, 5, 6, 7, 8, 9, 10] := by decide
  have m8 : (8 : Nat) ∈ [1, 2, 3, 4, 5, 6, 7, 8, 9, 10] := by decide
  have d1 : decide ((80 : Int) < (len0 : Int)) = false := by simp; omega
  go_enter Tryz.func3, Tryz.ntmps3
  go_wp2_with fail
  refine (law_staked A _ _ HS.out.errs m2 m4 m5 m6 m7 m8).mono ?_
  rintro e w0 ⟨rfl, hb0⟩
  have HB0 := Lib.hid hb0; clear hb0
  have HS0 := Lib.hid (HS.out.below HB0.out)
  go_wp2_with fail
  refine (stake_New _).mono ?_
  rintro e w1 ⟨rfl, hb1, hs1⟩
  have H1 := Lib.hid (And.intro hb1 hs1); clear hb1 hs1
  go_wp2_with fail
  refine (refs_New _).mono ?_
  rintro e w2 ⟨rb, rfl, hb2, hs2⟩
  have H2 := Lib.hid (two_new H1.out.1 H1.out.2 hb2 hs2); clear hb2 hs2 H1
  generalize hsb : w0.heap.size = sb at *
  clear hsb
  go_wp2_with fail
  go_loopg [6] len0 (fun g i wr => ∃ (t n : Nat) (Fs Fr : Nat → Prop) (s : SS), STwo w0 sb n Fs rb Fr s s wr ∧ g + t = len0 ∧ i = .int .i64 t ∧ (s.W.length ≤ t ∧ n ≤ 130 * t))
  case atStart => exact ⟨0, 0, _, _, SS.new, H2.out, rfl, rfl, by decide, by decide⟩
  case round =>
    clear H2
    obtain ⟨t, n, Fs, Fr, s, hT, hg, rfl, hbd⟩ := hrel
    have H := Lib.hid hT; have HG := Lib.hid hg; have HBD := Lib.hid hbd; clear hT hg hbd
    by_cases hlt : t < len0
    · obtain ⟨a, ha⟩ : ∃ a, l0[t]? = some a := ⟨_, List.getElem?_eq_getElem (by rw [HR0.out.size]; exact hlt)⟩
      obtain ⟨bb, off, rfl, hbl, hcs⟩ := (HR0.out.below (btrans HB0.out H.out.below)).cells t a ha
      have HAW := Lib.hid (HWF.out a (List.mem_of_getElem? ha))
      have c0 := hcs 0 (by decide)
      have c1 := hcs 1 (by decide)
      have c2 := hcs 2 (by decide)
      have c3 := hcs 3 (by decide)
      have c4 := hcs 4 (by decide)
      simp only [ActS.enc, List.getElem?_cons_zero, List.getElem?_cons_succ, Nat.add_zero] at c0 c1 c2 c3 c4
      have HAT := Lib.hid ha
      clear ha hcs
      have hw0 := HBD.out.1; have hw1 := HBD.out.2
      have HACT := Lib.hid (law2_act A w0 sb n Fs rb Fr s wr a H.out HAW.out HS0.out (by omega) (by omega))
      have HLEN := Lib.hid (SS.actS_len s a)
      clear hw0 hw1
      generalize s.actS a = y at *
      go_wp2_with fail
      refine HACT.out.mono ?_
      rintro e w3 ⟨rfl, n2, Fs2, Fr2, hn2, hT2⟩
      have H2 := Lib.hid hT2; have HN2 := Lib.hid hn2; clear hT2 hn2 c0 c1 c2 c3 c4
      have HB3 := Lib.hid (show y.W.length ≤ 80 from by have := HLEN.out; have := HBD.out.1; omega)
      have nt : (y.total != y.total) = false := bne_self_eq_false _
      go_wp2_with fail
      refine (st_Total H2.out.law (by have := HB3.out; omega)).mono ?_
      rintro e w4 ⟨rfl, hb4⟩
      have H4 := Lib.hid (H2.out.next hb4)
      have HBW := Lib.hid hb4; clear hb4
      go_wp2_with fail
      refine (H4.out.total (by have := HB3.out; omega)).mono ?_
      rintro e w5 ⟨rfl, rfl⟩
      go_wp2_with fail
      clear nt
      go_loopw [8] (fun i wx => ∃ j : Int, -1 ≤ j ∧ j ≤ 4 ∧ i = .int .i64 j ∧ w4 = wx) (fun i _ => (4 - intOf i).toNat)
      case atStart => exact ⟨-1, by omega, by omega, rfl, rfl⟩
      case round =>
        obtain ⟨j, hj0, hj, rfl, rfl⟩ := hrel
        by_cases hj3 : j ≤ 3
        · have ni : (y.is j != y.is j) = false := bne_self_eq_false _
          have ns : (y.staked j != y.staked j) = false := bne_self_eq_false _
          go_wp2_with fail
          refine (st_Is j H4.out.law).mono ?_
          rintro e w5 ⟨rfl, rfl⟩
          go_wp2_with fail
          refine (H4.out.is j).mono ?_
          rintro e w5 ⟨rfl, rfl⟩
          go_wp2_with fail
          refine (st_Staked j H4.out.law).mono ?_
          rintro e w5 ⟨rfl, rfl⟩
          go_wp2_with fail
          refine (H4.out.staked j).mono ?_
          rintro e w5 ⟨rfl, rfl⟩
          go_wp2_with fail
          go_roundw
          case rel => exact ⟨j + 1, by omega, by omega, by go_num, by first | rfl | trivial⟩
          case measure => simp [intOf]; omega
        · have hj4 : j = 4 := by omega
          subst hj4
          obtain ⟨b2, off2, e2, -, hcs2⟩ := (HR0.out.below (btrans HB0.out H4.out.below)).cells t a HAT.out
          cases e2
          have c0 := hcs2 0 (by decide)
          have c1 := hcs2 1 (by decide)
          have c2 := hcs2 2 (by decide)
          have c3 := hcs2 3 (by decide)
          have c4 := hcs2 4 (by decide)
          simp only [ActS.enc, List.getElem?_cons_zero, List.getElem?_cons_succ, Nat.add_zero] at c0 c1 c2 c3 c4
          have hbx := H4.out.box a 30
          obtain ⟨wb, hwb⟩ : ∃ wb, w4.alloc (.cells #[.string a.kind, .int .i64 a.owner, .int .i64 a.baker, .int .i64 a.n, .int .i64 a.cycle] 30) = wb := ⟨_, rfl⟩
          rw [hwb] at hbx
          have HX := Lib.hid hbx
          have e1 := hbx.c1; have e2 := hbx.c2; have e3 := hbx.c3; have e4 := hbx.c4
          have q1 := HAW.out.2.1; have q2 := HAW.out.2.2.2.2
          have HV1 := Lib.hid (fun k => st_Value A [1, 2, 3, 4, 5, 6, 7, 8, 9, 10] a.owner a.baker (HX.out.drewN k).two.law (HS0.out.below (HX.out.drewN k).two.below).errs m2 q1)
          have HV2 := Lib.hid (fun k => (HX.out.drewN k).two.value a.owner a.baker)
          have HV3 := Lib.hid (fun k => st_Waits A [1, 2, 3, 4, 5, 6, 7, 8, 9, 10] a.owner a.baker a.cycle (HX.out.drewN k).two.law (HS0.out.below (HX.out.drewN k).two.below).errs m2 q1 q2)
          have HV4 := Lib.hid (fun k => (HX.out.drewN k).two.waits a.owner a.baker a.cycle)
          have nv : (y.value a.owner a.baker != y.value a.owner a.baker) = false := bne_self_eq_false _
          have nw : (y.waits a.owner a.baker a.cycle != y.waits a.owner a.baker a.cycle) = false := bne_self_eq_false _
          clear hbx hcs2 q1 q2
          generalize y.value a.owner a.baker = vv at *
          generalize y.waits a.owner a.baker a.cycle = vw at *
          go_wp2_with fail
          clear c0 c1 c2 c3 c4 hwb
          go_quiet ((first
            | (go_at_call 23; exact Calls.quiet_of ((HV1.out _).mono fun _ _ ⟨a, m, b⟩ => ⟨a, m, b.symm⟩))
            | (go_at_call 24; exact Calls.quiet_of ((HV2.out _).mono fun _ _ ⟨a, m, b⟩ => ⟨a, m, b.symm⟩))
            | (go_at_call 25; exact Calls.quiet_of ((HV3.out _).mono fun _ _ ⟨a, m, b⟩ => ⟨a, m, b.symm⟩))
            | (go_at_call 26; exact Calls.quiet_of ((HV4.out _).mono fun _ _ ⟨a, m, b⟩ => ⟨a, m, b.symm⟩))))
          go_wp2_with fail
          have hg := HG.out
          go_roundg (len0 - (t + 1))
          case measure => omega
          case rel => exact ⟨t + 1, n2, Fs2, Fr2, y, (HX.out.drewN _).two, by omega, by go_num, by have := HLEN.out; have := HBD.out.1; omega, by have := HN2.out; have := HBD.out; omega⟩
    · go_wp2_with fail
      go_ret
      exact ⟨rfl, btrans HB0.out H.out.below⟩

set_option maxRecDepth 8000 in
theorem sacts_all (A : Nat → Addr) (a0 : Option Addr) (len0 cap0 : Nat) (l0 : List ActS) (w : World) (hS : Sents A w) (R0 : RdR ActS.enc 5 w a0 len0 cap0 l0) (hwf : ∀ x ∈ l0, x.wf) :
    Calls Tryz.prog 3 #[.slice a0 len0 cap0] w fun e w' => e = .returned (.bool true) ∧ Below w.heap.size w w' := by
  by_cases hl : len0 ≤ 80
  · exact sacts_walk A a0 len0 cap0 l0 w hS R0 hwf hl
  · have HS := Lib.hid hS
    have m2 : (2 : Nat) ∈ [1, 2, 3, 4, 5, 6, 7, 8, 9, 10] := by decide
    have m4 : (4 : Nat) ∈ [1, 2, 3, 4, 5, 6, 7, 8, 9, 10] := by decide
    have m5 : (5 : Nat) ∈ [1, 2, 3, 4, 5, 6, 7, 8, 9, 10] := by decide
    have m6 : (6 : Nat) ∈ [1, 2, 3, 4, 5, 6, 7, 8, 9, 10] := by decide
    have m7 : (7 : Nat) ∈ [1, 2, 3, 4, 5, 6, 7, 8, 9, 10] := by decide
    have m8 : (8 : Nat) ∈ [1, 2, 3, 4, 5, 6, 7, 8, 9, 10] := by decide
    have d1 : decide ((80 : Int) < (len0 : Int)) = true := by simp; omega
    clear hS R0 hwf
    go_enter Tryz.func3, Tryz.ntmps3
    go_wp2_with fail
    refine (law_staked A _ _ HS.out.errs m2 m4 m5 m6 m7 m8).mono ?_
    rintro e w0 ⟨rfl, hb0⟩
    go_wp2_with fail
    go_ret
    exact ⟨rfl, hb0⟩
end Go.Proofs.YtajnfkmkombajacGreatDoor
namespace Go.Proofs.YtajnfkmkombajacGreatDoor
open Go.RowKit Go.ChangeShapes

set_option maxRecDepth 100000 in
/-- the listed errors' own places, blocks, and that they differ -/
theorem sents_vars {W : World} (PS : List MemPlace) (hrows : ∀ b off, MemPlace.cell b off ∈ PS → (∃ c t, W.heap[b]? = some (.cells c t (0, 0))) ∧ ∀ u v, W.cell? ⟨b, off, none⟩ = some (.iface u v) → Value.okWide Tryz.prog W .any 0 u v) :
    ∀ (cs : List Nat) (l : List (String × DataW Unit)) (ps : List MemPlace), LaidAs cs l → DataW.LaidVars Tryz.prog W l ps → ps.Nodup → (∀ x ∈ ps, x ∈ PS) →
    ∃ A : Nat → Addr, (∀ c ∈ cs, W.cell? ⟨gE c, 0, none⟩ = some (ev A c)) ∧ (∀ c ∈ cs, MemPlace.cell (A c).block (A c).off ∈ ps) ∧ ∀ c ∈ cs, ∀ d ∈ cs, c ≠ d → A c ≠ A d
  | [], [], _, _, _, _, _ => ⟨fun _ => ⟨0, 0, none⟩, (fun c hc => by cases hc), (fun c hc => by cases hc), fun c hc => by cases hc⟩
  | c :: cs, (n, d) :: r, ps, ⟨⟨h0, h1, h2, h3, text, h4⟩, hr⟩, hv, hnd, hsub => by
    obtain ⟨g, t, xs, fuel, p, q, e1, e2, e3, e4, hq, rfl⟩ := hv
    simp only at h4 h2
    subst h4
    obtain rfl := Option.some.inj (h2.symm.trans e1)
    obtain rfl := Option.some.inj (h3.symm.trans e2)
    obtain ⟨l0⟩ := xs
    have ok0 : ∀ u v, l0 = [.iface u v] → Value.okWide Tryz.prog W .any 0 u v := fun u v e => by
      subst e
      exact (hrows (gE c) 0 (hsub _ (by simp [MemPlace.row]))).2 u v (by simpa using World.var?_cell e1 e3 0)
    obtain ⟨a0, s0, rfl, hc0, hs0, hz0, rfl⟩ := errorString_of_trod Tryz.underlying51 Tryz.rowErr Tryz.underlying386 Tryz.underlying388 rfl rfl Tryz.underlying9 Tryz.cellsErr Tryz.cellsStr e4 ok0
    have hnq : q.Nodup := (List.nodup_append.1 hnd).2.1
    obtain ⟨A, hA1, hA2, hA3⟩ := sents_vars PS hrows cs r q hr hq hnq (fun x hx => hsub x (by simp [hx]))
    refine ⟨fun k => if k = c then a0 else A k, fun k hk => ?_, fun k hk => ?_, fun k hk j hj hkj => ?_⟩
    · by_cases hkc : k = c
      · subst hkc
        have := World.var?_cell e1 e3 0
        rw [ev_some _ h0]
        simpa using this
      · have hk' : k ∈ cs := by simpa [hkc] using hk
        have := hA1 k hk'
        rw [this]; simp [ev, hkc]
    · by_cases hkc : k = c
      · subst hkc; simp only [if_true]; exact List.mem_append_left _ (by simp [MemPlace.row])
      · simp only [if_neg hkc]; exact List.mem_append_right _ (hA2 k (by simpa [hkc] using hk))
    · have far : ∀ m ∈ cs, A m ≠ a0 := by
        intro m hm e
        have h1 := hA2 m hm
        rw [e] at h1
        exact (List.nodup_append.1 hnd).2.2 _ (by simp [MemPlace.row]) _ h1 rfl
      by_cases hkc : k = c
      · have hjc : j ≠ c := fun e => hkj (by rw [hkc, e])
        simp only [if_pos hkc, if_neg hjc]
        exact fun e => far j (by simpa [hjc] using hj) e.symm
      · by_cases hjc : j = c
        · simp only [if_neg hkc, if_pos hjc]
          exact far k (by simpa [hkc] using hk)
        · simp only [if_neg hkc, if_neg hjc]
          exact hA3 k (by simpa [hkc] using hk) j (by simpa [hjc] using hj) hkj
  | [], _ :: _, _, h, _, _, _ => h.elim
  | _ :: _, [], _, h, _, _, _ => h.elim

def errorName : List UInt8 := [101, 114, 114, 111, 114]
theorem only_error : ((List.range Tryz.prog.types.size).all fun ty => !Tryz.prog.rowNamed ty errorName || ty == 51) = true := by kernel_rfl
theorem rtype_at : (Tryz.prog.cutTypes.find? (·.1 == "internal/reflectlite.rtype")).map (·.2) = some 307 := by kernel_rfl
theorem globals_size : Tryz.prog.globals.size = 26 := by kernel_rfl

theorem sents_of_laid {W : World} {L : List (String × DataW Unit)} (hL : laidMetH Tryz.prog L W) (h1 : LaidAs [1, 2, 3, 4, 5, 6, 7, 8, 9, 10] (L.filter fun x => x.2.handleName?.isNone))
    (h2 : ("errors.errorType", DataW.iface "internal/reflectlite.rtype" (.agg [.ptr (.lit (.string errorName))])) ∈ L) (h3 : Tryz.prog.globalNamed "errors.errorType" = some 10) : ∃ A, Sents A W := by
  obtain ⟨hm, hh⟩ := laidMetH_iff.1 hL
  obtain ⟨ps, hv, hnd, hrows⟩ := hm
  obtain ⟨A, a1, a2, a3⟩ := sents_vars ps hrows _ _ ps h1 hv hnd (fun x hx => hx)
  refine ⟨A, ⟨⟨a1⟩, ?_, fun c c1 c2 => ?_, fun c d c1 c2 d1 d2 hcd => a3 c (by simp; omega) d (by simp; omega) hcd⟩⟩
  · have := hh _ (List.mem_filter.2 ⟨h2, by rfl⟩)
    have hf : (DataW.iface (H := Unit) "internal/reflectlite.rtype" (.agg [.ptr (.lit (.string errorName))])).funcsIn? = none := by kernel_rfl
    rw [show (("errors.errorType", DataW.iface (H := Unit) "internal/reflectlite.rtype" (.agg [.ptr (.lit (.string errorName))])) : String × DataW Unit).2.funcsIn? = none from hf] at this
    obtain ⟨name, u, ty, e1, e2, e3, e4, e5⟩ := this
    have hn : name = errorName := by
      have h0 : (DataW.iface (H := Unit) "internal/reflectlite.rtype" (.agg [.ptr (.lit (.string errorName))])).handleName? = some errorName := by kernel_rfl
      exact Option.some.inj (e1.symm.trans h0)
    subst hn
    rw [rtype_at] at e2
    obtain rfl := Option.some.inj e2
    have hty : ty = 51 := by
      have := List.all_eq_true.1 only_error ty (List.mem_range.2 e3)
      rw [e4] at this
      simpa using this
    subst hty
    have := World.var?_cell h3 e5 0
    unfold ErrType
    simpa [typeHandle, globals_size] using this
  · obtain ⟨cs, t, hc⟩ := (hrows _ _ (a2 c (by simp; omega))).1
    exact ⟨cs, t, hc⟩
end Go.Proofs.YtajnfkmkombajacGreatDoor
namespace Go.Proofs.YtajnfkmkombajacGreatDoor
open Go

/-- who returns alone returns with others that only leave -/
theorem handed_leaving {a : Assume} {C : Checked} {os : Os} {f : FuncId} {r : Reach} {Pre : World → Array Value → Prop} {Post : World → Array Value → Value → World → Prop} (h : ReturnsInHanded a C os f r Pre Post) : ReturnsInLeavingWide a C os f r Pre Post := fun enter => by
  obtain ⟨h1, h2, h3, h4, h5⟩ := h enter
  refine ⟨h1, h2, h3, h4, fun w tape i hf => ?_⟩
  obtain ⟨n, v, w', k1, k2, k3, k4, ⟨j, last, e1, e2, q, ho, he⟩, al⟩ := h5 w tape i hf
  exact ⟨n, v, w', k1, k2, k3, k4, ⟨j, last, e1, e2, ho, onlyLeaving_of_quiet q, he⟩, al⟩

theorem tied_goes (Lk : Looks) {p : Pinned} {s : OpenSpec} {c : OpenClaim} (kinds : List LaidKind) (tests : Bool) (har : Bool × String) (lk : Bool)
    (hc : c.holds p s) (hw : c.wfByText s = true) (htie : c.laidByTextAt Lk p kinds tests)
    (hst : c.start = .entering) (hnb : c.noBlocks = false ∧ c.again = false) (hm : p.checked.prog.mainIs = some (har.1, har.2.toList)) (hn : (!har.1 && har.2.isEmpty && !lk) = false)
    (hl : ∀ f fn, p.checked.prog.funcNamed c.func = some f → p.checked.prog.funcs[f]? = some fn → lk = p.checked.prog.looks [] ∧ ∀ (j : Nat) t, fn.params[j]? = some t → p.checked.prog.wantsStandIn t = false)
    (hg : true = c.goesBy p.checked.prog) :
    Claim7.holds p (.plain s) { stood := { row := c, standIns := [], harness := har, looks := lk }, kinds := [], alts := [], goes := true, laidByText := true, laidKinds := kinds, laidTests := tests, laidLooks := Lk } := by
  have h6 : ∀ r : OpenClaim, Claim7.isSixth { stood := { row := r, standIns := [], harness := har, looks := lk }, kinds := [] } = false := fun r => by simpa [Claim7.isSixth] using hn
  refine ⟨Claim7.tied_new_at Lk kinds tests (Claim7.new_of_sixth hc har lk hst hnb hm (h6 c) hl) hw, (fun D hD => by cases hD), htie, (fun h => by cases h), hg⟩
end Go.Proofs.YtajnfkmkombajacGreatDoor
namespace Go.Proofs.YtajnfkmkombajacGreatDoor
open Go.RowKit Go.Maps

set_option maxRecDepth 8000 in
set_option maxHeartbeats 1000000 in
theorem court_Accuse_yes (A : Nat → Addr) (S : List Nat) (kb : Nat) (F : Nat → Prop) (n : Nat) (k : KS) (o : Int) (e : EV) (cy : Int) (w : World) (h : CourtAt kb F n k w) (hE : Errs A S w) (h2 : 2 ∈ S) (h5 : 5 ∈ S) (h10 : 10 ∈ S) (hw : e.wf) (hn : n ≤ 1000000) (hk : k.L.length ≤ 1000000) (hc : k.code o e cy = 0) :
    Calls Tryz.prog 153 #[.pointer (some ⟨kb, 0, none⟩), .int .i64 o, evV e, .int .i64 cy] w fun y w' => y = .returned .nilIface ∧ CourtP kb F (n + 1) ⟨k.L ++ [(o, e)], k.done⟩ w w' := by
  obtain ⟨i0, z0, hi, hz0, hz1, hz2, hz3⟩ := info_case
  obtain ⟨mb, dv, hL, hF1, hF2, hF3, hlt⟩ := h
  have hB := AccB.of hL hE h2 h5 h10 hw
  have hdl : k.due.length ≤ 1000000 := by unfold KS.due; rw [List.length_drop]; omega
  unfold evV
  generalize hw1 : w.alloc (.cells #[.int .i64 e.b, .int .i64 e.c, .int .i64 e.n] 46) = w1 at hB
  obtain ⟨hb1, hsz1, e0, e1, e2, g2, g5, g10, c0, c1, f1, hlk⟩ := hB
  have hcs : 0 ≤ o ∧ o < 6 ∧ 0 ≤ e.b ∧ e.b < 3 ∧ 0 ≤ e.n ∧ 0 ≤ cy ∧ cy ≤ 1048576 ∧ e.c ≤ cy ∧ cy - 2 ≤ e.c ∧ 0 ≤ e.c ∧ k.has e = false := by
    by_cases hb : o < 0 ∨ 6 ≤ o ∨ e.b < 0 ∨ 3 ≤ e.b ∨ e.n < 0 ∨ cy < 0 ∨ 1048576 < cy
    · rw [KS.bound hb] at hc; cases hc
    · have ho : ownB o = true := ownB_iff.2 (by omega)
      rw [KS.code_of ho (by omega) (by omega) (by omega)] at hc
      split at hc
      · cases hc
      · split at hc
        · cases hc
        · next h1 h2 => exact ⟨by omega, by omega, by omega, by omega, by omega, by omega, by omega, by omega, by omega, by omega, by simpa using h2⟩
  obtain ⟨i1, i2, i3, i4, i5, i6, i7, j1, j2, j3, hh⟩ := hcs
  rw [hh] at hlk
  obtain ⟨D, hown, hat⟩ := hL.map
  have hown1 : ∀ j, (w1.drewN j).ownsMap Tryz.prog 46 (plainElem Tryz.prog 4) mb n D := fun j => by
    obtain ⟨es, clock, q1, q2⟩ := hown
    exact ⟨es, clock, below_heap hb1 q1 (hlt _ hF2), q2⟩
  clear hE hc
  obtain ⟨eb, ec, en⟩ := e
  have HFIN := Lib.hid (fun i j g cap w2 w3 ob => hL.finish (i := i) (j := j) (g := g) (cap := cap) (w1 := w1) (w2 := w2) (w3 := w3) (ob := ob) (o := o) hF1 hF2 hF3 hlt hw hown hat hb1)
  have HFAR := Lib.hid (fun j => hL.far hlt hF1 hF2 hb1 hF3 e0 e1 e2 (j := j))
  have HST := Lib.hid (fun j => (hown1 j).store keyE Tryz.underlying183 (by unfold maxLen; omega) (keyOf_ev hw) (plainElem_bool Tryz.underlying4 true))
  have hlw := hsz1
  unfold evV at hlk HST
  simp only at hlk HST hw1 e0 e1 e2 i3 i4 i5 j1 j2 j3 ⊢
  go_enter Tryz.func153, Tryz.ntmps153
  go_wp2_with fail
  go_quiet (fail)
  go_wp2_with fail
  obtain ⟨w2, hup, hown2, hturn2⟩ := HST.out (nq + 1)
  have HM2 := Lib.hid hown2; have HT2 := Lib.hid hturn2
  have HF2 := Lib.hid (HFAR.out _ _ hturn2)
  obtain ⟨k1, k2, k3, k4, k5, k6⟩ := HF2.out.1
  have k7 := k6 (.cells #[.int .i64 o, .int .i64 eb, .int .i64 ec, .int .i64 en] 195)
  clear k6
  clear hown1 hown hat hturn2 hown2 hL hw
  go_region
  go_wp2_with fail
  have hz2l : w2.heap.size ≤ w2.heap.size := Nat.le_refl _
  go_region_law ((refine step_append_lies _ rfl (.tmp 75) (.tmp 79) 184 rfl 0 195 i0 z0 4 32 Tryz.underlying184 hi hz0 hz1 hz2 hz3 (by decide) dv k.due.length (casesE k.due) rfl (HF2.out.2.1 1 _) ⟨_, 0, none⟩ 1 1 (caseE (o, ⟨eb, ec, en⟩)) rfl rfl (World.news_of_block (heap_alloc_new _ _)) (by intro u hu; simp [caseE] at hu; rcases hu with rfl | rfl | rfl | rfl <;> rfl) (by decide) (by unfold maxLen; omega) (by omega) (Nat.zero_le _) _ rfl ?_; intro g cap w3 ho3 hg3 hor hlt3; obtain ⟨m1, m2⟩ := HF2.out.2.2 1 _ _ hg3))
  all_goals
    have hend := HFIN.out 1 (nq + 1) g cap w2 w3 _ HT2.out HM2.out hg3 ho3 (by simpa using hor) hlt3
    have HEND := Lib.hid hend
    clear hend ho3 hg3 hor hlt3
    go_wp2_with fail
    go_ret
    exact ⟨rfl, HEND.out⟩

theorem court_Accuse (A : Nat → Addr) (S : List Nat) (kb : Nat) (F : Nat → Prop) (n : Nat) (k : KS) (o : Int) (e : EV) (cy : Int) (w : World) (h : CourtAt kb F n k w) (hE : Errs A S w) (h2 : 2 ∈ S) (h5 : 5 ∈ S) (h10 : 10 ∈ S) (hw : e.wf) (hn : n ≤ 1000000) (hk : k.L.length ≤ 1000000) :
    Calls Tryz.prog 153 #[.pointer (some ⟨kb, 0, none⟩), .int .i64 o, evV e, .int .i64 cy] w fun y w' => y = .returned (ev A (k.accuse o e cy).1) ∧ CourtP kb F (n + 1) (k.accuse o e cy).2 w w' := by
  by_cases hc : k.code o e cy = 0
  · rw [KS.acc_ok hc]
    exact court_Accuse_yes A S kb F n k o e cy w h hE h2 h5 h10 hw hn hk hc
  · rw [KS.acc_bad rfl hc]
    exact (court_Accuse_no A S kb F n k o e cy w h hE h2 h5 h10 hw hc).mono fun y w' ⟨a, b1, b2⟩ => ⟨a, b1, b2.mono (Nat.le_succ n)⟩

set_option maxRecDepth 8000 in
/-- a copy of cases -/
theorem cases_Clone (dv : Value) (l : List (Int × EV)) (w : World) (h : w.ownsRow 0 195 4 dv l.length (casesE l)) (hl : l.length ≤ 1000000) :
    Calls Tryz.prog 199 #[dv] w fun y w' => ∃ v', y = .returned v' ∧ w'.ownsRow w.heap.size 195 4 v' l.length (casesE l) ∧ Below w.heap.size w w' := by
  obtain ⟨i0, z0, hi, hz0, hz1, hz2, hz3⟩ := info_case
  have q : ∀ (w : World) (a : Option Addr) (n c n' c' : Nat), (binOp .eql 184 (.slice a n c) (.slice none n' c')).run Tryz.prog w = .ok (.bool a.isNone) w := fun w a n c n' c' => Lib.run_eql_slice_nil w _ _ a n c n' c' Tryz.underlying184
  have u : ∀ w, Sem.run Tryz.prog (underlying 184) w = .ok (TypeDesc.slice 195) w := run_underlying Tryz.underlying184
  have HO := Lib.hid h
  obtain ⟨h1, h2⟩ := h
  rcases h2 with ⟨rfl, hn⟩ | ⟨g, cap, cur, rfl, hb, hg, hnc, hcm, hcs, ht⟩
  · have : l = [] := List.eq_nil_of_length_eq_zero hn
    subst this
    go_enter Tryz.func199, Tryz.ntmps199
    go_wp2
    go_ret
    exact ⟨_, rfl, World.ownsRow_nil _ _ _ _, Below.refl _ _⟩
  · have hcells := HO.out.cells (g := g) rfl
    have HC := Lib.hid hcells
    have HG := Lib.hid hg
    have H1 := Lib.hid h1
    clear hcells hg hcs ht h1
    go_enter Tryz.func199, Tryz.ntmps199
    go_wp2_with (at_builtin; refine wpList_append_own _ rfl _ _ 184 rfl w.heap.size 195 i0 z0 4 32 Tryz.underlying184 hi hz0 hz1 hz2 hz3 (by decide) _ _ _ rfl (World.ownsRow_made w #[] 0 (Nat.le_refl _) (Nat.zero_le _) rfl) ⟨g, 0, none⟩ l.length cap (casesE l) rfl ?qc1 ?qc2 ?qc3 ?qc4 ?qc5 ?qc6 ?_)
    case qc1 => exact H1.out
    case qc2 => exact fun j u hj => Lib.cell?_alloc_some _ (HC.out j u hj)
    case qc3 =>
      intro u hu
      unfold casesE at hu
      obtain ⟨x, _, hx⟩ := List.mem_flatMap.1 hu
      simp [caseE] at hx
      rcases hx with rfl | rfl | rfl | rfl <;> rfl
    case qc4 => unfold maxLen; omega
    case qc5 => omega
    case qc6 => simp
    intro v' w1 hown hgrow hnil
    go_wp2
    go_ret
    exact ⟨v', rfl, by simpa using hown, ((Below.refl _ w).alloc (Nat.le_refl _) _).grown hgrow (by simp) (by intro k hk; simp [Value.ownBlock] at hk; omega)⟩

set_option maxRecDepth 8000 in
theorem court_Due (kb : Nat) (F : Nat → Prop) (n : Nat) (k : KS) (w : World) (h : CourtAt kb F n k w) (hk : k.L.length ≤ 1000000) :
    Calls Tryz.prog 158 #[.pointer (some ⟨kb, 0, none⟩)] w fun y w' => ∃ v', y = .returned v' ∧ w'.ownsRow w.heap.size 195 4 v' k.due.length (casesE k.due) ∧ Keep F w w' ∧ CourtAt kb F n k.asked w' := by
  obtain ⟨mb, dv, hL, hF1, hF2, hF3, hlt⟩ := h
  have hdl : k.due.length ≤ 1000000 := by unfold KS.due; rw [List.length_drop]; omega
  have c1 : w.cell? ⟨kb, 1, none⟩ = some dv := hL.row.cell 1
  have HCL := Lib.hid (fun wx (hx : Below w.heap.size w wx) => cases_Clone dv k.due wx (hL.keep (G := fun _ => False) (Keep.of_below hx) id id (fun _ _ => id)).due hdl)
  have HFIN := Lib.hid (show ∀ wx v', Below w.heap.size w wx → wx.ownsRow w.heap.size 195 4 v' k.due.length (casesE k.due) → (wx.cell? ⟨kb, 1, none⟩ = some dv ∧ wx.frozen? ⟨kb, 1, none⟩ = false) ∧ ∀ i,
      ((wx.drewN i).setCell ⟨kb, 1, none⟩ (.slice none 0 0)).ownsRow w.heap.size 195 4 v' k.due.length (casesE k.due) ∧ Keep F w ((wx.drewN i).setCell ⟨kb, 1, none⟩ (.slice none 0 0)) ∧ CourtAt kb F n k.asked ((wx.drewN i).setCell ⟨kb, 1, none⟩ (.slice none 0 0)) by
    intro wx v' hb ho
    have hL1 : CourtL kb mb dv n k wx := hL.keep (G := fun _ => False) (Keep.of_below hb) id id (fun _ _ => id)
    refine ⟨⟨hL1.row.cell 1, hL1.row.frozen 1⟩, fun i => ?_⟩
    have KE := ((Keep.of_below (F := F) hb).drewN i).setCell (p := ⟨kb, 1, none⟩) (.inl hF1) (.slice none 0 0)
    have hkb := hlt _ hF1
    refine ⟨ownsRow_other ho (fun g hg => Below.heap_setCell (wx.drewN i) _ _ _ (show g ≠ kb from fun e => ?_)), KE, mb, .slice none 0 0, ⟨(hL1.row.drewN i).set 1 _, hL.ne, ?_, ?_, by simp [Value.ownBlock], by simp [Value.ownBlock], hL.wf, Nat.le_refl _⟩, hF1, hF2, (fun g hg => by cases hg), fun b hb' => Nat.lt_of_lt_of_le (hlt b hb') KE.size⟩
    · rcases ho.2 with ⟨hv, _⟩ | ⟨g', cap, cur, hv, hb', _⟩
      · rw [hv] at hg; cases hg
      · rw [hv] at hg; simp [Value.ownBlock] at hg; omega
    · obtain ⟨D, ⟨es, clock, q1, q2⟩, q3⟩ := hL1.map
      exact ⟨D, ⟨es, clock, by rw [Below.heap_setCell _ _ _ _ (show mb ≠ kb from fun e => hL.ne e.symm)]; exact q1, q2⟩, q3⟩
    · have : k.asked.due = [] := by unfold KS.asked KS.due; simp
      rw [this]; exact World.ownsRow_nil _ _ _ _)
  clear hL hF1 hF2 hF3 hlt
  go_enter Tryz.func158, Tryz.ntmps158
  go_wp2_with fail
  refine (HCL.out _ (Below.refl _ _)).mono ?_
  rintro e w1 ⟨v', rfl, ho, hb⟩
  obtain ⟨⟨m1, m2⟩, hend⟩ := HFIN.out w1 v' hb ho
  have HEND := Lib.hid (hend 0)
  clear hend ho hb
  go_wp2_with fail
  go_ret
  exact ⟨v', rfl, HEND.out⟩
end Go.Proofs.YtajnfkmkombajacGreatDoor
