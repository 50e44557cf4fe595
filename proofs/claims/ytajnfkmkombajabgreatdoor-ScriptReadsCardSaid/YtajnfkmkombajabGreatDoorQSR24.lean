/-
  Plain: what a line of a script answers and leaves. No program in sight.
  The walk of plays: a block by its turn; one number.
  A []Act argument of the chain's laws, opened: it reads as acts.
  The walk of an act on a chain alone.
-/
import Derived.Test.YtajnfkmkombajabGreatDoorQSR23
import Derived.Test.YtajnfkmkombajabGreatDoorQSR01
import Derived.Test.YtajnfkmkombajabGreatDoorProg
import Derived.Test.YtajnfkmkombajabGreatDoorQSR03
import Derived.Test.YtajnfkmkombajabGreatDoorQSR06
set_option linter.unusedVariables false
set_option linter.unusedSimpArgs false
set_option linter.unusedVariables false
namespace Go.Proofs.YtajnfkmkombajabGreatDoor
open Go.RowKit

/-- a cycle to its end: so many blocks of round 0 are left -/
noncomputable def CS.cycleN (sd : Nat) : Nat → CS → Nat × CS
  | 0, x => (0, x)
  | m + 1, x => if x.turnC 0 ≠ 0 then (x.turnC 0, x) else CS.cycleN sd m (x.btS sd 0)
def CS.left (x : CS) : Nat := (4 - x.level % 4).toNat
noncomputable def CS.cycleOp (x : CS) (sd : Nat) : Nat × CS := CS.cycleN sd x.left x

/-- what command i does with its numbers: what it tells, an error's number, what is left -/
noncomputable def CS.cmdOp (x : CS) (sd : Nat) (i : Nat) (n : List Int) : ByteArray × Nat × CS :=
  match i with
  | 0 => (okB, (x.p.moveOp (n.getD 0 0) (n.getD 1 0) (n.getD 2 0)).1, { x with p := (x.p.moveOp (n.getD 0 0) (n.getD 1 0) (n.getD 2 0)).2 })
  | 1 => (okB, x.stakeOp (n.getD 0 0) (n.getD 1 0) (n.getD 2 0))
  | 2 => (okB, (x.s.leaveOp (n.getD 0 0) (n.getD 1 0) (n.getD 2 0) x.cycle).1, { x with s := (x.s.leaveOp (n.getD 0 0) (n.getD 1 0) (n.getD 2 0) x.cycle).2 })
  | 3 => (okB, (x.k.accuse (n.getD 0 0) ⟨n.getD 1 0, n.getD 2 0, n.getD 3 0⟩ x.cycle).1, { x with k := (x.k.accuse (n.getD 0 0) ⟨n.getD 1 0, n.getD 2 0, n.getD 3 0⟩ x.cycle).2 })
  | 4 => (okB, x.cycleOp sd)
  | 5 => (itoaB (x.freeOp (n.getD 0 0)).1, (x.freeOp (n.getD 0 0)).2)
  | 6 => (itoaB (x.turnV sd (n.getD 0 0)), x.turnC (n.getD 0 0), x)
  | 7 => (itoaB (x.btV sd (n.getD 0 0)) ++ spB ++ itoaB (x.btN sd (n.getD 0 0)), x.turnC (n.getD 0 0), x.btS sd (n.getD 0 0))
  | 8 => (itoaB (if ownB (n.getD 0 0) then x.p.at (n.getD 0 0) else 0), 0, x)
  | 9 => (itoaB (x.s.staked (n.getD 0 0)), 0, x)
  | 10 => (itoaB (x.s.value (n.getD 0 0) (n.getD 1 0)), 0, x)
  | 11 => (itoaB (x.s.waits (n.getD 0 0) (n.getD 1 0) (n.getD 2 0)), 0, x)
  | 12 => (itoaB x.p.supply, 0, x)
  | 13 => (itoaB x.bonus, 0, x)
  | _ => (itoaB x.cycle ++ spB ++ itoaB x.level, 0, x)

def splitL (s : ByteArray) : List ByteArray := Lib.splitB spB 0 (Lib.countB s spB) s
/-- a line: its error's number and what it tells, what is left -/
noncomputable def CS.lineOp (x : CS) (sd : Nat) (line : ByteArray) : ByteArray × Nat × CS :=
  match cmdOf ((splitL line).headD ByteArray.empty).data.toList with
  | none => (ByteArray.empty, 1, x)
  | some i => match readB (cmdForm i) ((splitL line).drop 1) with
    | none => (ByteArray.empty, 1, x)
    | some n => x.cmdOp sd i n
noncomputable def CS.lineA (x : CS) (sd : Nat) (line : ByteArray) : ByteArray := if (x.lineOp sd line).2.1 = 0 then (x.lineOp sd line).1 else errB (x.lineOp sd line).2.1
noncomputable def CS.scriptA (sd : Nat) : List ByteArray → CS → List ByteArray
  | [], _ => []
  | s :: l, x => x.lineA sd s :: CS.scriptA sd l (x.lineOp sd s).2.2
noncomputable def CS.scriptS (x : CS) (sd : Nat) (l : List ByteArray) : CS := l.foldl (fun y s => (y.lineOp sd s).2.2) x

theorem CS.scriptS_snoc (x : CS) (sd : Nat) (l : List ByteArray) (s : ByteArray) : x.scriptS sd (l ++ [s]) = ((x.scriptS sd l).lineOp sd s).2.2 := by
  unfold CS.scriptS; rw [List.foldl_append]; rfl
theorem CS.scriptA_append (sd : Nat) (m : List ByteArray) : ∀ (l : List ByteArray) (x : CS), CS.scriptA sd (l ++ m) x = CS.scriptA sd l x ++ CS.scriptA sd m (x.scriptS sd l)
  | [], x => rfl
  | s :: l, x => by
    show x.lineA sd s :: CS.scriptA sd (l ++ m) _ = x.lineA sd s :: (CS.scriptA sd l _ ++ _)
    rw [CS.scriptA_append sd m l]; rfl
theorem CS.scriptA_snoc (x : CS) (sd : Nat) (l : List ByteArray) (s : ByteArray) : CS.scriptA sd (l ++ [s]) x = CS.scriptA sd l x ++ [(x.scriptS sd l).lineA sd s] := CS.scriptA_append sd [s] l x
theorem CS.scriptA_len (sd : Nat) : ∀ (l : List ByteArray) (x : CS), (CS.scriptA sd l x).length = l.length
  | [], _ => rfl
  | s :: l, x => by show (CS.scriptA sd l _).length + 1 = l.length + 1; rw [CS.scriptA_len sd l]

/-! ### what is left is right -/
theorem CS.bt_keeps {x : CS} (h : x.Inv) (sd : Nat) (r : Int) : (x.btS sd r).Inv ∧ (x.btS sd r).s.W.length = x.s.W.length ∧ (x.btS sd r).k.L.length = x.k.L.length ∧ (x.btS sd r).cycle ≤ x.cycle + 1 := by
  unfold CS.btS
  split
  · obtain ⟨l1, l2⟩ := CS.step_len' (x.reward (x.turnV sd r)).2
    obtain ⟨k1, k2, k3⟩ := CS.reward_keeps x (x.turnV sd r)
    have o := CS.baked_ok h (x.turnV sd r)
    exact ⟨o.inv, by rw [l1, CS.reward_len], by rw [l2, k2], o.cy⟩
  · exact ⟨h, rfl, rfl, by omega⟩
theorem CS.bt_step {x : CS} (h : x.Inv) (sd : Nat) (hc : x.turnC 0 = 0) : (x.btS sd 0).level = x.level + 1 ∧ ((x.level + 1) % 4 = 0 → (x.btS sd 0).cycle = x.cycle + 1) ∧ ((x.level + 1) % 4 ≠ 0 → (x.btS sd 0).cycle = x.cycle) := by
  have e : x.btS sd 0 = (x.reward (x.turnV sd 0)).2.stepOp := if_pos hc
  obtain ⟨i1, i2, i3, i4, i5⟩ := CS.reward_inv h (x.turnV sd 0)
  obtain ⟨s1, s2, s3, s4, s5⟩ := CS.step_inv i1
  rw [e]
  refine ⟨by rw [s4, i5], fun hm => ?_, fun hm => ?_⟩
  · unfold CS.stepOp
    rw [if_pos (by rw [i5]; exact hm)]
    have hl : ({ (x.reward (x.turnV sd 0)).2 with level := (x.reward (x.turnV sd 0)).2.level + 1 } : CS).Inv := ⟨i1.p, i1.s, i1.reg, i1.bal, i1.known, i1.done, i1.b0, i1.b1, i1.three, i1.pic, i1.cy, by have := i1.lv; show 0 ≤ (x.reward (x.turnV sd 0)).2.level + 1; omega⟩
    rw [(CS.end_inv hl).2.2.1]
    show (x.reward (x.turnV sd 0)).2.cycle + 1 = _
    rw [i4]
  · unfold CS.stepOp
    rw [if_neg (by rw [i5]; exact hm)]
    exact i4
/-- blocks that are left of a cycle -/
theorem CS.left_bd {x : CS} (h : x.Inv) : 1 ≤ x.left ∧ x.left ≤ 4 := by unfold CS.left; have := h.lv; omega
theorem CS.left_next {x y : CS} (h : x.Inv) {m : Nat} (hm : x.left = m + 1) (hy : y.level = x.level + 1) : ((x.level + 1) % 4 = 0 ↔ m = 0) ∧ (m ≠ 0 → y.left = m) := by
  unfold CS.left at *; rw [hy]; have := h.lv; omega
theorem CS.cycleN_ok (sd : Nat) : ∀ (m : Nat) {x : CS}, x.Inv → x.left = m ∨ m = 0 → (CS.cycleN sd m x).2.Inv ∧ (CS.cycleN sd m x).2.s.W.length = x.s.W.length ∧ (CS.cycleN sd m x).2.k.L.length = x.k.L.length ∧ (CS.cycleN sd m x).2.cycle ≤ x.cycle + 1
  | 0, x, h, _ => ⟨h, rfl, rfl, by show x.cycle ≤ _; omega⟩
  | m + 1, x, h, hl => by
    have hm : x.left = m + 1 := hl.resolve_right (by omega)
    unfold CS.cycleN
    split
    · exact ⟨h, rfl, rfl, by simp only; omega⟩
    · next hc =>
      have hc := Decidable.not_not.1 hc
      obtain ⟨k1, k2, k3, k4⟩ := CS.bt_keeps h sd 0
      obtain ⟨b1, b2, b3⟩ := CS.bt_step h sd hc
      obtain ⟨n1, n2⟩ := CS.left_next h hm b1
      by_cases h0 : m = 0
      · subst h0
        exact ⟨k1, k2, k3, k4⟩
      · obtain ⟨c1, c2, c3, c4⟩ := CS.cycleN_ok sd m k1 (.inl (n2 h0))
        exact ⟨c1, by rw [c2, k2], by rw [c3, k3], by rw [b3 (fun e => h0 (n1.1 e))] at c4; exact c4⟩
theorem CS.cmd_ok {x : CS} (h : x.Inv) (sd : Nat) (i : Nat) (n : List Int) : OneOk x (x.cmdOp sd i n).2.2 := by
  have same : OneOk x x := (CS.same_ok h).one
  unfold CS.cmdOp
  split
  · obtain ⟨h1, h2⟩ := CS.pay_inv h (n.getD 0 0) (n.getD 1 0) (n.getD 2 0)
    exact ⟨h1, by simp, by simp, by show x.cycle ≤ _; omega⟩
  · obtain ⟨h1, h2⟩ := CS.stake_inv h (n.getD 0 0) (n.getD 1 0) (n.getD 2 0)
    obtain ⟨k1, k2, k3⟩ := CS.stake_keeps x (n.getD 0 0) (n.getD 1 0) (n.getD 2 0)
    exact ⟨h1, by show (x.stakeOp _ _ _).2.s.W.length ≤ _; rw [k1]; omega, by show (x.stakeOp _ _ _).2.k.L.length ≤ _; rw [k2]; omega, by show (x.stakeOp _ _ _).2.cycle ≤ _; rw [k3]; omega⟩
  · exact ⟨CS.unstake_inv h _ _ _, SS.leave_len _ _ _ _ _, by simp, by show x.cycle ≤ _; omega⟩
  · exact ⟨CS.accuse_inv h _ _, by simp, KS.accuse_len' _ _ _ _, by show x.cycle ≤ _; omega⟩
  · obtain ⟨c1, c2, c3, c4⟩ := CS.cycleN_ok sd x.left h (.inl rfl)
    exact ⟨c1, by show (CS.cycleN sd x.left x).2.s.W.length ≤ _; omega, by show (CS.cycleN sd x.left x).2.k.L.length ≤ _; omega, c4⟩
  · obtain ⟨h1, h2, -⟩ := CS.free_inv h (n.getD 0 0)
    obtain ⟨k1, k2, k3⟩ := CS.free_keeps x (n.getD 0 0)
    exact ⟨h1, by show (x.freeOp _).2.2.s.W.length ≤ _; rw [k1]; omega, by show (x.freeOp _).2.2.k.L.length ≤ _; rw [k2]; omega, by show (x.freeOp _).2.2.cycle ≤ _; rw [k3]; omega⟩
  · exact same
  · obtain ⟨c1, c2, c3, c4⟩ := CS.bt_keeps h sd (n.getD 0 0)
    exact ⟨c1, by show (x.btS sd _).s.W.length ≤ _; omega, by show (x.btS sd _).k.L.length ≤ _; omega, c4⟩
  all_goals exact same
theorem CS.line_ok {x : CS} (h : x.Inv) (sd : Nat) (s : ByteArray) : OneOk x (x.lineOp sd s).2.2 := by
  unfold CS.lineOp
  split
  · exact (CS.same_ok h).one
  · split
    · exact (CS.same_ok h).one
    · exact CS.cmd_ok h sd _ _
/-- a chain that has gone through t lines -/
theorem PlayQ.line {t : Nat} {x : CS} (h : PlayQ t x) (sd : Nat) (s : ByteArray) : PlayQ (t + 1) (x.lineOp sd s).2.2 := by
  have o := CS.line_ok h.inv sd s
  have := o.w; have := o.k; have := o.cy; have := h.w; have := h.k; have := h.cy
  exact ⟨o.inv, by omega, by omega, by omega⟩
theorem PlayQ.script (sd : Nat) : ∀ (l : List ByteArray) {t : Nat} {x : CS}, PlayQ t x → PlayQ (t + l.length) (x.scriptS sd l)
  | [], _, _, h => h
  | s :: l, t, x, h => by
    have := PlayQ.script sd l (h.line sd s)
    rw [show t + 1 + l.length = t + (s :: l).length by simp; omega] at this
    exact this

/-! ### codes; what is told is not empty -/
theorem CS.cycleN_le (sd : Nat) : ∀ (m : Nat) (x : CS), (CS.cycleN sd m x).1 ≤ 10
  | 0, _ => Nat.zero_le _
  | m + 1, x => by
    unfold CS.cycleN
    split
    · simp only; unfold CS.turnC; split <;> omega
    · exact CS.cycleN_le sd m _
theorem turnC_le10 {x : CS} {r : Int} : x.turnC r ≤ 10 := by unfold CS.turnC; split <;> omega
theorem CS.cmd_le (x : CS) (sd : Nat) (i : Nat) (n : List Int) : (x.cmdOp sd i n).2.1 ≤ 10 := by
  unfold CS.cmdOp
  split
  · exact PS.move10
  · show (x.stakeOp _ _ _).1 ≤ 10
    unfold CS.stakeOp
    split
    · exact PS.out10
    · split
      · exact SS.join10
      · simp
  · exact SS.leave10
  · exact KS.accuse10
  · exact CS.cycleN_le sd _ _
  · show (x.freeOp _).2.1 ≤ 10
    unfold CS.freeOp
    split
    · exact SS.free10
    · exact PS.in10
  · exact turnC_le10
  · exact turnC_le10
  all_goals exact Nat.zero_le _
theorem CS.line_le (x : CS) (sd : Nat) (s : ByteArray) : (x.lineOp sd s).2.1 ≤ 10 := by
  unfold CS.lineOp
  split
  · show 1 ≤ 10; decide
  · split
    · show 1 ≤ 10; decide
    · exact CS.cmd_le x sd _ _
end Go.Proofs.YtajnfkmkombajabGreatDoor
namespace Go.Proofs.YtajnfkmkombajabGreatDoor
open Go.RowKit Go.Maps

section
variable (A : Nat → Addr) (S : List Nat) (W : World) (F : Nat → Prop) (cb : Nat) (K : ChL) (n sd : Nat) (x : CS) (w : World)
set_option maxRecDepth 8000 in
theorem play_Bake (r : Int) (h : ChGo W F cb K n sd x w) (hx : x.Inv) (hs : sd < 18446744073709551616) (hE : Errs A S W) (hFE : ∀ c ∈ S, ¬ F (gE c)) (h2 : 2 ∈ S) (h3 : 3 ∈ S) (h4 : 4 ∈ S) (h6 : 6 ∈ S) (h9 : 9 ∈ S) (hW : x.s.W.length ≤ 8000) (hn : n + 1 ≤ 1000000) (hk : x.k.L.length ≤ 1000000) :
    Calls Tryz.prog 52 #[.pointer (some ⟨cb, 0, none⟩), .int .i64 r] w fun e w' => e = .returned (.tuple #[.int .i64 (x.btV sd r), .int .i64 (x.btN sd r), ev A (x.turnC r)]) ∧ ∃ K', ChGo W F cb K' (n + 1) sd (x.btS sd r) w' := by
  have H0 := Lib.hid h
  have HT := Lib.hid (chain_Turn A S W F cb K n sd x r w h hx hs hE hFE h2 h3 h4)
  have HB := Lib.hid (fun wx (hg : ChGo W F cb K n sd x wx) => chain_Bake A S W F cb K n sd x wx (x.turnV sd r) r hg hx hs hE hFE h2 h3 h4 h6 h9 hW hn hk)
  clear h hx hE hFE
  by_cases hc : x.turnC r = 0
  · have E1 := Lib.hid (show x.btV sd r = x.turnV sd r from if_pos hc)
    have E2 := Lib.hid (show x.btN sd r = (x.reward (x.turnV sd r)).1 from if_pos hc)
    have E3 := Lib.hid (show x.btS sd r = (x.reward (x.turnV sd r)).2.stepOp from if_pos hc)
    have E4 := Lib.hid (show x.bakeOp sd (x.turnV sd r) r = ((x.reward (x.turnV sd r)).1, 0, (x.reward (x.turnV sd r)).2.stepOp) by unfold CS.bakeOp; rw [if_neg (by simp [hc]), if_neg (by simp)])
    rw [E4.out] at HB
    simp only [ev_nil] at HB
    have HC := Lib.hid (show ev A (x.turnC r) = .nilIface by rw [hc]; rfl)
    rw [HC.out] at HT
    clear hc E4
    go_enter Tryz.func52, Tryz.ntmps52
    go_wp2_with fail
    refine HT.out.mono ?_
    rintro e w1 ⟨rfl, b1⟩
    have H1 := Lib.hid (H0.out.below b1); clear b1
    go_wp2_with fail
    refine (HB.out _ H1.out).mono ?_
    rintro e w2 ⟨rfl, K2, g2⟩
    have H2 := Lib.hid g2; clear g2
    go_wp2_with fail
    go_ret3
    exact ⟨by rw [E1.out, E2.out, HC.out]; rfl, by rw [E3.out]; exact ⟨K2, H2.out⟩⟩
  · have E1 := Lib.hid (show x.btV sd r = 0 from if_neg hc)
    have E2 := Lib.hid (show x.btN sd r = 0 from if_neg hc)
    have E3 := Lib.hid (show x.btS sd r = x from if_neg hc)
    have HC := Lib.hid (ev_some A hc)
    rw [HC.out] at HT
    clear hc
    go_enter Tryz.func52, Tryz.ntmps52
    go_wp2_with fail
    refine HT.out.mono ?_
    rintro e w1 ⟨rfl, b1⟩
    have H1 := Lib.hid (H0.out.below b1); clear b1
    go_wp2_with fail
    go_ret3
    exact ⟨by rw [E1.out, E2.out, HC.out]; rfl, by rw [E3.out]; exact ⟨K, H1.out.mono (Nat.le_succ n)⟩⟩

theorem CS.oneOp_parts (x : CS) (sd : Nat) {v q o b N k4 nn r : Int} (h1 : v / 8 = q) (h2 : q % 6 = o) (h3 : q / 6 % 3 = b) (h4 : 1 + q / 18 % 2000 = N) (h5 : q / 18 % 4 = k4) (h6 : q / 72 % 5 = nn) (h7 : q % 8 = r) :
    (v % 8 = 0 → x.oneOp sd v = ((x.p.moveOp o b N).1, { x with p := (x.p.moveOp o b N).2 })) ∧ (v % 8 = 1 → x.oneOp sd v = x.stakeOp o b N) ∧
    (v % 8 = 2 → x.oneOp sd v = ((x.s.leaveOp o b N x.cycle).1, { x with s := (x.s.leaveOp o b N x.cycle).2 })) ∧ (v % 8 = 3 → x.oneOp sd v = ((x.freeOp o).2.1, (x.freeOp o).2.2)) ∧
    (v % 8 = 4 → x.oneOp sd v = ((x.k.accuse o ⟨b, x.cycle - k4, nn⟩ x.cycle).1, { x with k := (x.k.accuse o ⟨b, x.cycle - k4, nn⟩ x.cycle).2 })) ∧
    (5 ≤ v % 8 → x.oneOp sd v = (x.turnC r, x.btS sd r)) := by
  subst h1; subst h2; subst h3; subst h4; subst h5; subst h6; subst h7
  unfold CS.oneOp
  refine ⟨fun h => by rw [if_pos h], fun h => by rw [if_neg (by omega), if_pos h], fun h => by rw [if_neg (by omega), if_neg (by omega), if_pos h], fun h => by rw [if_neg (by omega), if_neg (by omega), if_neg (by omega), if_pos h], fun h => by rw [if_neg (by omega), if_neg (by omega), if_neg (by omega), if_neg (by omega), if_pos h], fun h => by rw [if_neg (by omega), if_neg (by omega), if_neg (by omega), if_neg (by omega), if_neg (by omega)]⟩

/-- what the code reckons of a number -/
structure OneN (v q o b q6 k kk N m k4 q72 nn r : Int) : Prop where
  q1 : v.tdiv 8 = q
  q2 : v / 8 = q
  o1 : q.tmod 6 = o
  o2 : q % 6 = o
  a1 : q.tdiv 6 = q6
  a2 : q / 6 = q6
  b1 : q6.tmod 3 = b
  b2 : q6 % 3 = b
  k1 : q.tdiv 18 = k
  k2 : q / 18 = k
  c1 : k.tmod 2000 = kk
  c2 : k % 2000 = kk
  n1 : 1 + kk = N
  m1 : v.tmod 8 = m
  m2 : v % 8 = m
  d1 : k.tmod 4 = k4
  d2 : k % 4 = k4
  e1 : q.tdiv 72 = q72
  e2 : q / 72 = q72
  f1 : q72.tmod 5 = nn
  f2 : q72 % 5 = nn
  r1 : q.tmod 8 = r
  r2 : q % 8 = r
  bd : 0 ≤ q ∧ 0 ≤ kk ∧ kk < 2000 ∧ 0 ≤ k4 ∧ k4 < 4 ∧ 0 ≤ nn ∧ nn < 5 ∧ 0 ≤ b ∧ b < 3 ∧ 0 ≤ m ∧ m < 8
theorem OneN.of {v : Int} (h : 0 ≤ v) : OneN v (v / 8) (v / 8 % 6) (v / 8 / 6 % 3) (v / 8 / 6) (v / 8 / 18) (v / 8 / 18 % 2000) (1 + v / 8 / 18 % 2000) (v % 8) (v / 8 / 18 % 4) (v / 8 / 72) (v / 8 / 72 % 5) (v / 8 % 8) := by
  have hq : 0 ≤ v / 8 := by omega
  exact ⟨Int.tdiv_eq_ediv_of_nonneg h, rfl, Int.tmod_eq_emod_of_nonneg hq, rfl, Int.tdiv_eq_ediv_of_nonneg hq, rfl, Int.tmod_eq_emod_of_nonneg (by omega), rfl, Int.tdiv_eq_ediv_of_nonneg hq, rfl, Int.tmod_eq_emod_of_nonneg (by omega), rfl, rfl,
    Int.tmod_eq_emod_of_nonneg h, rfl, Int.tmod_eq_emod_of_nonneg (by omega), rfl, Int.tdiv_eq_ediv_of_nonneg hq, rfl, Int.tmod_eq_emod_of_nonneg (by omega), rfl, Int.tmod_eq_emod_of_nonneg hq, rfl, by omega⟩

end
end Go.Proofs.YtajnfkmkombajabGreatDoor
namespace Go.Proofs.YtajnfkmkombajabGreatDoor
open Go.RowKit Go.ChangeShapes Go.WideShapes Go.Deep

end Go.Proofs.YtajnfkmkombajabGreatDoor
namespace Go.Proofs.YtajnfkmkombajabGreatDoor
open Go.RowKit Go.Maps

section
variable (A : Nat → Addr) (S : List Nat) (W : World) (F : Nat → Prop) (cb : Nat) (K : ChL) (n sd : Nat) (x : CS) (w : World)
theorem chain_Bonus (h : ChGo W F cb K n sd x w) : Calls Tryz.prog 66 #[.pointer (some ⟨cb, 0, none⟩)] w fun e w' => e = .returned (.int .i64 x.bonus) ∧ w = w' := by
  have c := h.c6
  clear h
  go_enter Tryz.func66, Tryz.ntmps66
  go_wp2
  go_ret
  exact ⟨rfl, rfl⟩

/-- behind the call's own box of the act -/
structure DoB (w : World) (a : ActC) (w1 : World) : Prop where
  b0 : w1.cell? ⟨w.heap.size, 0, none⟩ = some (.string a.kind)
  b1 : w1.cell? ⟨w.heap.size, 1, none⟩ = some (.int .i64 a.o)
  b2 : w1.cell? ⟨w.heap.size, 2, none⟩ = some (.int .i64 a.t)
  b3 : w1.cell? ⟨w.heap.size, 3, none⟩ = some (.int .i64 a.b)
  b4 : w1.cell? ⟨w.heap.size, 4, none⟩ = some (.int .i64 a.n)
  b5 : w1.cell? ⟨w.heap.size, 5, none⟩ = some (.int .i64 a.round)
  b6 : w1.cell? ⟨w.heap.size, 6, none⟩ = some (.int .i64 a.e.b)
  b7 : w1.cell? ⟨w.heap.size, 7, none⟩ = some (.int .i64 a.e.c)
  b8 : w1.cell? ⟨w.heap.size, 8, none⟩ = some (.int .i64 a.e.n)
theorem DoB.of (w : World) (a : ActC) (t : TypeId) : DoB w a (w.alloc (.cells #[.string a.kind, .int .i64 a.o, .int .i64 a.t, .int .i64 a.b, .int .i64 a.n, .int .i64 a.round, .int .i64 a.e.b, .int .i64 a.e.c, .int .i64 a.e.n] t)) := by
  have hn := heap_alloc_new w (.cells #[.string a.kind, .int .i64 a.o, .int .i64 a.t, .int .i64 a.b, .int .i64 a.n, .int .i64 a.round, .int .i64 a.e.b, .int .i64 a.e.c, .int .i64 a.e.n] t)
  refine ⟨?_, ?_, ?_, ?_, ?_, ?_, ?_, ?_, ?_⟩
  all_goals (unfold World.cell?; rw [hn]; simp)

end
end Go.Proofs.YtajnfkmkombajabGreatDoor
