/-
  A chain in memory that is new; a block by its turn; the closed fact of the chain's laws.
  Plain: what an act on a chain answers and leaves; sums are right behind it.
  Plain: no code is more than ten. No program in sight.
  Plain: what one number of a play answers and leaves; what a script does.
  Plain: what a line of a script answers and leaves. No program in sight.
  The walk of plays: a block by its turn; one number.
  A []Act argument of the chain's laws, opened: it reads as acts.
  The walk of an act on a chain alone.
-/
import Derived.Test.YtajnfkmkombajaaGreatDoorQSP20
import Derived.Test.YtajnfkmkombajaaGreatDoorQSP05
import Derived.Test.YtajnfkmkombajaaGreatDoorQSP04
import Derived.Test.YtajnfkmkombajaaGreatDoorQSP01
import Derived.Test.YtajnfkmkombajaaGreatDoorProg
import Derived.Test.YtajnfkmkombajaaGreatDoorQSP02
set_option linter.unusedVariables false
set_option linter.unusedSimpArgs false
set_option linter.unusedVariables false
namespace Go.Proofs.YtajnfkmkombajaaGreatDoor
open Go.RowKit Go.Maps
structure CN (W : World) (cb : Nat) (K : ChL) (n sd : Nat) (x : CS) (w : World) : Prop where
 below : Below W.heap.size W w
 ch : ChainL cb K n sd x w
 new : ∀ b, K.foot cb b → W.heap.size ≤ b
section
variable {W w w' : World} {cb cb2 n m n2 sd sd2 : Nat} {K K' K2 : ChL} {x y z : CS} {G : Nat → Prop}
theorem CN.go (h : CN W cb K n sd x w) : ChGo w (K.foot cb) cb K n sd x w := ChGo.start h.ch (fun _ hb => hb) h.ch.footlt
theorem CN.of (h : CN W cb K n sd x w) (k : ChGo w (K.foot cb) cb K' m sd y w') : CN W cb K' m sd y w' :=
 ⟨Keep.after h.below k.keep h.new, k.ch, fun b hb => (k.foot b hb).elim (h.new b) (fun ⟨a, _⟩ => Nat.le_trans h.below.size a)⟩
theorem CN.next (h : CN W cb K n sd x w) (b : Below w.heap.size w w') : CN W cb K n sd x w' := ⟨btrans h.below b, h.ch.below b, h.new⟩
theorem CN.drewN (h : CN W cb K n sd x w) (j : Nat) : CN W cb K n sd x (w.drewN j) := h.next ((Below.refl _ _).drewN j)
theorem CN.other (h : CN W cb K n sd x w) (k : Keep G w w') (hG : ∀ b, G b → W.heap.size ≤ b) (hd : ∀ b, K.foot cb b → ¬ G b) : CN W cb K n sd x w' := ⟨Keep.after h.below k hG, h.ch.keep k hd, h.new⟩
theorem CN.fe {A : Nat → Addr} {S : List Nat} (h : CN W cb K n sd x w) (hE : Errs A S W) : ∀ c ∈ S, ¬ K.foot cb (gE c) := fun c hc hf => by have := h.new _ hf; have := hE.lt hc; omega
theorem CN.errs {A : Nat → Addr} {S : List Nat} (h : CN W cb K n sd x w) (hE : Errs A S W) : Errs A S w := hE.below h.below
theorem CN.since {W0 : World} (h : CN W cb K n sd x w) (b : Below W0.heap.size W0 W) : CN W0 cb K n sd x w := ⟨b.trans (h.below.mono b.size), h.ch, fun c hc => Nat.le_trans b.size (h.new c hc)⟩
theorem ChGo.cn (h : ChGo W noF cb K n sd x w) : CN W cb K n sd x w := ⟨⟨h.keep.os, h.keep.tape, h.keep.output, h.keep.size, fun k hk => h.keep.block k hk id⟩, h.ch, fun b hb => (h.foot b hb).elim (fun e => e.elim) (·.1)⟩
end
noncomputable def CS.btV (x : CS) (sd : Nat) (r : Int) : Int := if x.turnC r = 0 then x.turnV sd r else 0
noncomputable def CS.btN (x : CS) (sd : Nat) (r : Int) : Int := if x.turnC r = 0 then (x.reward (x.turnV sd r)).1 else 0
noncomputable def CS.btS (x : CS) (sd : Nat) (r : Int) : CS := if x.turnC r = 0 then (x.reward (x.turnV sd r)).2.stepOp else x
section
variable (A : Nat → Addr) (S : List Nat) (W : World) (F : Nat → Prop) (cb : Nat) (K : ChL) (n sd : Nat) (x : CS) (w : World)
end
theorem turnV_bd {x : CS} (h : x.Inv) (sd : Nat) (r : Int) : 0 ≤ x.turnV sd r ∧ x.turnV sd r < 3 := by
 unfold CS.turnV
 split
 · have hl : x.pics.getD 0 [] ∈ x.pics := getD_mem _ _ _ (by rw [h.three]; decide)
   obtain ⟨h1, h2, h3⟩ := h.pic _ hl
   obtain ⟨k, e, hk, _⟩ := bakerV_weight (zs := x.pics.getD 0 []) (by rw [pic_fine ⟨h2, h1, h3⟩]) sd x.cycle x.level r
   rw [h1] at hk
   rw [e]; omega
 · omega
end Go.Proofs.YtajnfkmkombajaaGreatDoor
namespace Go.Proofs.YtajnfkmkombajaaGreatDoor
open Go.RowKit
theorem CS.step_len' (c : CS) : c.stepOp.s.W.length = c.s.W.length ∧ c.stepOp.k.L = c.k.L := by
 have hj : ∀ (l : List (Int × EV)) (c : CS), (l.foldl CS.judge c).s.W.length = c.s.W.length := by
   intro l
   induction l with
   | nil => intro c; rfl
   | cons x l ih => intro c; rw [List.foldl_cons, ih]; exact SS.slash_len _ _ _ _
 unfold CS.stepOp
 split
 · exact ⟨hj _ _, rfl⟩
 · exact ⟨rfl, rfl⟩
structure DoOk (x : CS) (n : Int) (y : CS) : Prop where
 inv : y.Inv
 n0 : 0 ≤ n
 le : y.p.supply ≤ x.p.supply + n
 eq : y.cycle = x.cycle → y.p.supply = x.p.supply + n
 w : y.s.W.length ≤ x.s.W.length + 1
 k : y.k.L.length ≤ x.k.L.length + 1
 cy : y.cycle ≤ x.cycle + 1
theorem CS.baked_ok {x : CS} (h : x.Inv) (b : Int) : DoOk x (x.reward b).1 (x.reward b).2.stepOp := by
 obtain ⟨i1, i2, i3, i4, i5⟩ := CS.reward_inv h b
 obtain ⟨s1, s2, s3, s4, s5⟩ := CS.step_inv i1
 obtain ⟨l1, l2⟩ := CS.step_len' (x.reward b).2
 obtain ⟨k1, k2, k3⟩ := CS.reward_keeps x b
 exact ⟨s1, i2, by rw [← i3]; exact s2, fun hc => by rw [← i3]; exact s3 (by rw [hc, i4]), by rw [l1, CS.reward_len]; omega, by rw [l2, k2]; omega, by rw [← i4]; exact s5⟩
theorem CS.same_ok {x : CS} (h : x.Inv) : DoOk x 0 x := ⟨h, Int.le_refl _, by omega, fun _ => by omega, by omega, by omega, by omega⟩
theorem CS.stake_keeps (x : CS) (o b n : Int) : (x.stakeOp o b n).2.s.W = x.s.W ∧ (x.stakeOp o b n).2.k = x.k ∧ (x.stakeOp o b n).2.cycle = x.cycle := by
 unfold CS.stakeOp; split
 · exact ⟨rfl, rfl, rfl⟩
 · split <;> exact ⟨SS.join_len _ _ _ _, rfl, rfl⟩
theorem CS.free_keeps (x : CS) (o : Int) : (x.freeOp o).2.2.s.W.length = x.s.W.length ∧ (x.freeOp o).2.2.k = x.k ∧ (x.freeOp o).2.2.cycle = x.cycle := by
 unfold CS.freeOp; split <;> exact ⟨SS.free_len _ _ _, rfl, rfl⟩
theorem KS.accuse_len' (k : KS) (o : Int) (e : EV) (cy : Int) : (k.accuse o e cy).2.L.length ≤ k.L.length + 1 := by
 unfold KS.accuse; split <;> simp
theorem CS.reward_most {x : CS} (h : x.Inv) (b : Int) : (x.reward b).1 ≤ 1125899906842624 := by
 have hi := CS.issues_bd h
 unfold CS.reward
 split
 · simp only; omega
 · split
   · simp only; omega
   · split
     · simp only; omega
     · exact hi.2
def hasK (p : PS) (k : Nat) : Int := (p.has.take k).sum
theorem hasK_all {p : PS} (h : p.Ok) : hasK p 6 = p.sum := by
 unfold hasK; rw [List.take_of_length_le (by rw [h.six]; decide)]; exact h.sumIs
end Go.Proofs.YtajnfkmkombajaaGreatDoor
namespace Go.Proofs.YtajnfkmkombajaaGreatDoor
open Go.RowKit
theorem QS.join10 {q : QS} {o n : Int} : (q.joinOp o n).1 ≤ 10 := by
 unfold QS.joinOp; repeat' split
 all_goals simp only; omega
theorem QS.take10 {q : QS} {o n : Int} : (q.takeOp o n).1 ≤ 10 := by
 unfold QS.takeOp; repeat' split
 all_goals simp only; omega
theorem SS.join10 {s : SS} {o k n : Int} : (s.joinOp o k n).1 ≤ 10 := by
 unfold SS.joinOp
 split
 · simp
 · exact QS.join10
theorem SS.leave10 {s : SS} {o k n c : Int} : (s.leaveOp o k n c).1 ≤ 10 := by
 unfold SS.leaveOp
 split
 · simp
 · split
   · simp
   · split
     · exact QS.take10
     · simp only
       split
       · exact QS.join10
       · simp
theorem SS.free10 {s : SS} {o c : Int} : (s.freeOp o c).2.1 ≤ 10 := by
 unfold SS.freeOp; repeat' split
 all_goals simp only; omega
theorem KS.accuse10 {k : KS} {o : Int} {e : EV} {cy : Int} : (k.accuse o e cy).1 ≤ 10 := by
 have : k.code o e cy ≤ 10 := by unfold KS.code; repeat' split
                                 all_goals omega
 unfold KS.accuse
 split
 · exact this
 · simp
theorem lookC10 {o n : Int} : lookC o n ≤ 10 := by
 unfold lookC; split
 · exact Nat.zero_le _
 · decide
theorem PS.out10 {p : PS} {o n : Int} : (p.outOp o n).1 ≤ 10 := by
 have := @lookC10 o n
 unfold PS.outOp; repeat' split
 all_goals (simp only; omega)
theorem PS.in10 {p : PS} {o n : Int} : (p.inOp o n).1 ≤ 10 := by
 have := @lookC10 o n
 unfold PS.inOp; repeat' split
 all_goals (simp only; omega)
theorem PS.move10 {p : PS} {o t n : Int} : (p.moveOp o t n).1 ≤ 10 := by
 have := @lookC10 t n; have := @PS.out10 p o n
 unfold PS.moveOp; repeat' split
 all_goals first | omega | exact PS.in10 | (simp only; omega)
end Go.Proofs.YtajnfkmkombajaaGreatDoor
namespace Go.Proofs.YtajnfkmkombajaaGreatDoor
open Go.RowKit
noncomputable def CS.oneOp (x : CS) (sd : Nat) (v : Int) : Nat × CS :=
 if v % 8 = 0 then ((x.p.moveOp (v / 8 % 6) (v / 8 / 6 % 3) (1 + v / 8 / 18 % 2000)).1, { x with p := (x.p.moveOp (v / 8 % 6) (v / 8 / 6 % 3) (1 + v / 8 / 18 % 2000)).2 })
 else if v % 8 = 1 then x.stakeOp (v / 8 % 6) (v / 8 / 6 % 3) (1 + v / 8 / 18 % 2000)
 else if v % 8 = 2 then ((x.s.leaveOp (v / 8 % 6) (v / 8 / 6 % 3) (1 + v / 8 / 18 % 2000) x.cycle).1, { x with s := (x.s.leaveOp (v / 8 % 6) (v / 8 / 6 % 3) (1 + v / 8 / 18 % 2000) x.cycle).2 })
 else if v % 8 = 3 then ((x.freeOp (v / 8 % 6)).2.1, (x.freeOp (v / 8 % 6)).2.2)
 else if v % 8 = 4 then ((x.k.accuse (v / 8 % 6) ⟨v / 8 / 6 % 3, x.cycle - v / 8 / 18 % 4, v / 8 / 72 % 5⟩ x.cycle).1, { x with k := (x.k.accuse (v / 8 % 6) ⟨v / 8 / 6 % 3, x.cycle - v / 8 / 18 % 4, v / 8 / 72 % 5⟩ x.cycle).2 })
 else (x.turnC (v / 8 % 8), x.btS sd (v / 8 % 8))
noncomputable def CS.playOp (x : CS) (sd : Nat) (v : Int) : Int × CS := if v < 0 then (-1, x) else ((x.oneOp sd v).1, (x.oneOp sd v).2)
noncomputable def CS.runS (x : CS) (sd : Nat) (l : List Int) : CS := l.foldl (fun y v => (y.playOp sd v).2) x
structure OneOk (x y : CS) : Prop where
 inv : y.Inv
 w : y.s.W.length ≤ x.s.W.length + 1
 k : y.k.L.length ≤ x.k.L.length + 1
 cy : y.cycle ≤ x.cycle + 1
theorem DoOk.one {x y : CS} {n : Int} (h : DoOk x n y) : OneOk x y := ⟨h.inv, h.w, h.k, h.cy⟩
theorem CS.one_ok {x : CS} (h : x.Inv) (sd : Nat) (v : Int) : OneOk x (x.oneOp sd v).2 := by
 unfold CS.oneOp
 generalize v / 8 % 6 = o
 generalize v / 8 / 6 % 3 = b
 generalize 1 + v / 8 / 18 % 2000 = n
 generalize v / 8 / 18 % 4 = k4
 generalize v / 8 / 72 % 5 = nn
 generalize v / 8 % 8 = r
 split
 · obtain ⟨h1, h2⟩ := CS.pay_inv h o b n
   exact ⟨h1, by simp, by simp, by show x.cycle ≤ _; omega⟩
 · split
   · obtain ⟨h1, h2⟩ := CS.stake_inv h o b n
     obtain ⟨k1, k2, k3⟩ := CS.stake_keeps x o b n
     exact ⟨h1, by rw [k1]; omega, by rw [k2]; omega, by rw [k3]; omega⟩
   · split
     · exact ⟨CS.unstake_inv h o b n, SS.leave_len _ _ _ _ _, by simp, by show x.cycle ≤ _; omega⟩
     · split
       · obtain ⟨h1, h2, -⟩ := CS.free_inv h o
         obtain ⟨k1, k2, k3⟩ := CS.free_keeps x o
         exact ⟨h1, by rw [k1]; omega, by rw [k2]; omega, by rw [k3]; omega⟩
       · split
         · exact ⟨CS.accuse_inv h o _, by simp, KS.accuse_len' _ _ _ _, by show x.cycle ≤ _; omega⟩
         · simp only
           unfold CS.btS
           split
           · exact (CS.baked_ok h _).one
           · exact (CS.same_ok h).one
theorem CS.play_ok {x : CS} (h : x.Inv) (sd : Nat) (v : Int) : OneOk x (x.playOp sd v).2 := by
 unfold CS.playOp
 split
 · exact (CS.same_ok h).one
 · exact CS.one_ok h sd v
structure PlayQ (t : Nat) (x : CS) : Prop where
 inv : x.Inv
 w : x.s.W.length ≤ t
 k : x.k.L.length ≤ t
 cy : x.cycle ≤ t
theorem PlayQ.new : PlayQ 0 CS.new := ⟨CS.new_inv, by decide, by decide, by decide⟩
theorem PlayQ.next {t : Nat} {x : CS} (h : PlayQ t x) (sd : Nat) (v : Int) : PlayQ (t + 1) (x.playOp sd v).2 := by
 have o := CS.play_ok h.inv sd v
 have := o.w; have := o.k; have := o.cy; have := h.w; have := h.k; have := h.cy
 exact ⟨o.inv, by omega, by omega, by omega⟩
theorem PlayQ.run {x : CS} (sd : Nat) : ∀ (l : List Int) {t : Nat} {x : CS}, PlayQ t x → PlayQ (t + l.length) (x.runS sd l)
 | [], _, _, h => h
 | v :: l, t, x, h => by
   have := PlayQ.run (x := x) sd l (h.next sd v)
   rw [show t + 1 + l.length = t + (v :: l).length by simp; omega] at this
   exact this
theorem PlayQ.sums {t : Nat} {x : CS} (h : PlayQ t x) : hasK x.p 6 + x.s.total = x.p.supply := by rw [hasK_all h.inv.p]; exact h.inv.bal
end Go.Proofs.YtajnfkmkombajaaGreatDoor
namespace Go.Proofs.YtajnfkmkombajaaGreatDoor
open Go.RowKit
noncomputable def CS.cycleN (sd : Nat) : Nat → CS → Nat × CS
 | 0, x => (0, x)
 | m + 1, x => if x.turnC 0 ≠ 0 then (x.turnC 0, x) else CS.cycleN sd m (x.btS sd 0)
def CS.left (x : CS) : Nat := (4 - x.level % 4).toNat
noncomputable def CS.cycleOp (x : CS) (sd : Nat) : Nat × CS := CS.cycleN sd x.left x
noncomputable def CS.cmdOp (x : CS) (sd : Nat) (i : Nat) (n : List Int) : ByteArray × Nat × CS :=
 match i with
 | 0 => (okB, (x.p.moveOp (n.getD 0 0) (n.getD 1 0) (n.getD 2 0)).1, { x with p := (x.p.moveOp (n.getD 0 0) (n.getD 1 0) (n.getD 2 0)).2 })
 | 1 => (okB, x.stakeOp (n.getD 0 0) (n.getD 1 0) (n.getD 2 0))
 | 2 => (okB, (x.s.leaveOp (n.getD 0 0) (n.getD 1 0) (n.getD 2 0) x.cycle).1, { x with s := (x.s.leaveOp (n.getD 0 0) (n.getD 1 0) (n.getD 2 0) x.cycle).2 })
 | 3 => (okB, (x.k.accuse (n.getD 0 0) ⟨n.getD 1 0, n.getD 2 0, n.getD 3 0⟩ x.cycle).1, { x with k := (x.k.accuse (n.getD 0 0) ⟨n.getD 1 0, n.getD 2 0, n.getD 3 0⟩ x.cycle).2 })
 | 4 => (okB, x.cycleOp sd)
 | 5 => (itoaB (x.freeOp (n.getD 0 0)).1, (x.freeOp (n.getD 0 0)).2)
 | 6 => (itoaB (x.turnV sd (n.getD 0 0)), x.turnC (n.getD 0 0), x)
 | 7 => (itoaB (x.btV sd (n.getD 0 0)) ++ spB ++ itoaB (x.btN sd (n.getD 0 0)), x.turnC (n.getD 0 0), x.btS sd (n.getD 0 0))
 | 8 => (itoaB (if ownB (n.getD 0 0) then x.p.at (n.getD 0 0) else 0), 0, x)
 | 9 => (itoaB (x.s.staked (n.getD 0 0)), 0, x)
 | 10 => (itoaB (x.s.value (n.getD 0 0) (n.getD 1 0)), 0, x)
 | 11 => (itoaB (x.s.waits (n.getD 0 0) (n.getD 1 0) (n.getD 2 0)), 0, x)
 | 12 => (itoaB x.p.supply, 0, x)
 | 13 => (itoaB x.bonus, 0, x)
 | _ => (itoaB x.cycle ++ spB ++ itoaB x.level, 0, x)
def splitL (s : ByteArray) : List ByteArray := Lib.splitB spB 0 (Lib.countB s spB) s
noncomputable def CS.lineOp (x : CS) (sd : Nat) (line : ByteArray) : ByteArray × Nat × CS :=
 match cmdOf ((splitL line).headD ByteArray.empty).data.toList with
 | none => (ByteArray.empty, 1, x)
 | some i => match readB (cmdForm i) ((splitL line).drop 1) with
   | none => (ByteArray.empty, 1, x)
   | some n => x.cmdOp sd i n
noncomputable def CS.lineA (x : CS) (sd : Nat) (line : ByteArray) : ByteArray := if (x.lineOp sd line).2.1 = 0 then (x.lineOp sd line).1 else errB (x.lineOp sd line).2.1
noncomputable def CS.scriptA (sd : Nat) : List ByteArray → CS → List ByteArray
 | [], _ => []
 | s :: l, x => x.lineA sd s :: CS.scriptA sd l (x.lineOp sd s).2.2
noncomputable def CS.scriptS (x : CS) (sd : Nat) (l : List ByteArray) : CS := l.foldl (fun y s => (y.lineOp sd s).2.2) x
theorem CS.scriptS_snoc (x : CS) (sd : Nat) (l : List ByteArray) (s : ByteArray) : x.scriptS sd (l ++ [s]) = ((x.scriptS sd l).lineOp sd s).2.2 := by
 unfold CS.scriptS; rw [List.foldl_append]; rfl
theorem CS.scriptA_append (sd : Nat) (m : List ByteArray) : ∀ (l : List ByteArray) (x : CS), CS.scriptA sd (l ++ m) x = CS.scriptA sd l x ++ CS.scriptA sd m (x.scriptS sd l)
 | [], x => rfl
 | s :: l, x => by
   show x.lineA sd s :: CS.scriptA sd (l ++ m) _ = x.lineA sd s :: (CS.scriptA sd l _ ++ _)
   rw [CS.scriptA_append sd m l]; rfl
theorem CS.scriptA_snoc (x : CS) (sd : Nat) (l : List ByteArray) (s : ByteArray) : CS.scriptA sd (l ++ [s]) x = CS.scriptA sd l x ++ [(x.scriptS sd l).lineA sd s] := CS.scriptA_append sd [s] l x
theorem CS.scriptA_len (sd : Nat) : ∀ (l : List ByteArray) (x : CS), (CS.scriptA sd l x).length = l.length
 | [], _ => rfl
 | s :: l, x => by show (CS.scriptA sd l _).length + 1 = l.length + 1; rw [CS.scriptA_len sd l]
/-! ### what is left is right -/
theorem CS.bt_keeps {x : CS} (h : x.Inv) (sd : Nat) (r : Int) : (x.btS sd r).Inv ∧ (x.btS sd r).s.W.length = x.s.W.length ∧ (x.btS sd r).k.L.length = x.k.L.length ∧ (x.btS sd r).cycle ≤ x.cycle + 1 := by
 unfold CS.btS
 split
 · obtain ⟨l1, l2⟩ := CS.step_len' (x.reward (x.turnV sd r)).2
   obtain ⟨k1, k2, k3⟩ := CS.reward_keeps x (x.turnV sd r)
   have o := CS.baked_ok h (x.turnV sd r)
   exact ⟨o.inv, by rw [l1, CS.reward_len], by rw [l2, k2], o.cy⟩
 · exact ⟨h, rfl, rfl, by omega⟩
theorem CS.bt_step {x : CS} (h : x.Inv) (sd : Nat) (hc : x.turnC 0 = 0) : (x.btS sd 0).level = x.level + 1 ∧ ((x.level + 1) % 4 = 0 → (x.btS sd 0).cycle = x.cycle + 1) ∧ ((x.level + 1) % 4 ≠ 0 → (x.btS sd 0).cycle = x.cycle) := by
 have e : x.btS sd 0 = (x.reward (x.turnV sd 0)).2.stepOp := if_pos hc
 obtain ⟨i1, i2, i3, i4, i5⟩ := CS.reward_inv h (x.turnV sd 0)
 obtain ⟨s1, s2, s3, s4, s5⟩ := CS.step_inv i1
 rw [e]
 refine ⟨by rw [s4, i5], fun hm => ?_, fun hm => ?_⟩
 · unfold CS.stepOp
   rw [if_pos (by rw [i5]; exact hm)]
   have hl : ({ (x.reward (x.turnV sd 0)).2 with level := (x.reward (x.turnV sd 0)).2.level + 1 } : CS).Inv := ⟨i1.p, i1.s, i1.reg, i1.bal, i1.known, i1.done, i1.b0, i1.b1, i1.three, i1.pic, i1.cy, by have := i1.lv; show 0 ≤ (x.reward (x.turnV sd 0)).2.level + 1; omega⟩
   rw [(CS.end_inv hl).2.2.1]
   show (x.reward (x.turnV sd 0)).2.cycle + 1 = _
   rw [i4]
 · unfold CS.stepOp
   rw [if_neg (by rw [i5]; exact hm)]
   exact i4
theorem CS.left_bd {x : CS} (h : x.Inv) : 1 ≤ x.left ∧ x.left ≤ 4 := by unfold CS.left; have := h.lv; omega
theorem CS.left_next {x y : CS} (h : x.Inv) {m : Nat} (hm : x.left = m + 1) (hy : y.level = x.level + 1) : ((x.level + 1) % 4 = 0 ↔ m = 0) ∧ (m ≠ 0 → y.left = m) := by
 unfold CS.left at *; rw [hy]; have := h.lv; omega
theorem CS.cycleN_ok (sd : Nat) : ∀ (m : Nat) {x : CS}, x.Inv → x.left = m ∨ m = 0 → (CS.cycleN sd m x).2.Inv ∧ (CS.cycleN sd m x).2.s.W.length = x.s.W.length ∧ (CS.cycleN sd m x).2.k.L.length = x.k.L.length ∧ (CS.cycleN sd m x).2.cycle ≤ x.cycle + 1
 | 0, x, h, _ => ⟨h, rfl, rfl, by show x.cycle ≤ _; omega⟩
 | m + 1, x, h, hl => by
   have hm : x.left = m + 1 := hl.resolve_right (by omega)
   unfold CS.cycleN
   split
   · exact ⟨h, rfl, rfl, by simp only; omega⟩
   · next hc =>
     have hc := Decidable.not_not.1 hc
     obtain ⟨k1, k2, k3, k4⟩ := CS.bt_keeps h sd 0
     obtain ⟨b1, b2, b3⟩ := CS.bt_step h sd hc
     obtain ⟨n1, n2⟩ := CS.left_next h hm b1
     by_cases h0 : m = 0
     · subst h0
       exact ⟨k1, k2, k3, k4⟩
     · obtain ⟨c1, c2, c3, c4⟩ := CS.cycleN_ok sd m k1 (.inl (n2 h0))
       exact ⟨c1, by rw [c2, k2], by rw [c3, k3], by rw [b3 (fun e => h0 (n1.1 e))] at c4; exact c4⟩
theorem CS.cmd_ok {x : CS} (h : x.Inv) (sd : Nat) (i : Nat) (n : List Int) : OneOk x (x.cmdOp sd i n).2.2 := by
 have same : OneOk x x := (CS.same_ok h).one
 unfold CS.cmdOp
 split
 · obtain ⟨h1, h2⟩ := CS.pay_inv h (n.getD 0 0) (n.getD 1 0) (n.getD 2 0)
   exact ⟨h1, by simp, by simp, by show x.cycle ≤ _; omega⟩
 · obtain ⟨h1, h2⟩ := CS.stake_inv h (n.getD 0 0) (n.getD 1 0) (n.getD 2 0)
   obtain ⟨k1, k2, k3⟩ := CS.stake_keeps x (n.getD 0 0) (n.getD 1 0) (n.getD 2 0)
   exact ⟨h1, by show (x.stakeOp _ _ _).2.s.W.length ≤ _; rw [k1]; omega, by show (x.stakeOp _ _ _).2.k.L.length ≤ _; rw [k2]; omega, by show (x.stakeOp _ _ _).2.cycle ≤ _; rw [k3]; omega⟩
 · exact ⟨CS.unstake_inv h _ _ _, SS.leave_len _ _ _ _ _, by simp, by show x.cycle ≤ _; omega⟩
 · exact ⟨CS.accuse_inv h _ _, by simp, KS.accuse_len' _ _ _ _, by show x.cycle ≤ _; omega⟩
 · obtain ⟨c1, c2, c3, c4⟩ := CS.cycleN_ok sd x.left h (.inl rfl)
   exact ⟨c1, by show (CS.cycleN sd x.left x).2.s.W.length ≤ _; omega, by show (CS.cycleN sd x.left x).2.k.L.length ≤ _; omega, c4⟩
 · obtain ⟨h1, h2, -⟩ := CS.free_inv h (n.getD 0 0)
   obtain ⟨k1, k2, k3⟩ := CS.free_keeps x (n.getD 0 0)
   exact ⟨h1, by show (x.freeOp _).2.2.s.W.length ≤ _; rw [k1]; omega, by show (x.freeOp _).2.2.k.L.length ≤ _; rw [k2]; omega, by show (x.freeOp _).2.2.cycle ≤ _; rw [k3]; omega⟩
 · exact same
 · obtain ⟨c1, c2, c3, c4⟩ := CS.bt_keeps h sd (n.getD 0 0)
   exact ⟨c1, by show (x.btS sd _).s.W.length ≤ _; omega, by show (x.btS sd _).k.L.length ≤ _; omega, c4⟩
 all_goals exact same
theorem CS.line_ok {x : CS} (h : x.Inv) (sd : Nat) (s : ByteArray) : OneOk x (x.lineOp sd s).2.2 := by
 unfold CS.lineOp
 split
 · exact (CS.same_ok h).one
 · split
   · exact (CS.same_ok h).one
   · exact CS.cmd_ok h sd _ _
theorem PlayQ.line {t : Nat} {x : CS} (h : PlayQ t x) (sd : Nat) (s : ByteArray) : PlayQ (t + 1) (x.lineOp sd s).2.2 := by
 have o := CS.line_ok h.inv sd s
 have := o.w; have := o.k; have := o.cy; have := h.w; have := h.k; have := h.cy
 exact ⟨o.inv, by omega, by omega, by omega⟩
theorem PlayQ.script (sd : Nat) : ∀ (l : List ByteArray) {t : Nat} {x : CS}, PlayQ t x → PlayQ (t + l.length) (x.scriptS sd l)
 | [], _, _, h => h
 | s :: l, t, x, h => by
   have := PlayQ.script sd l (h.line sd s)
   rw [show t + 1 + l.length = t + (s :: l).length by simp; omega] at this
   exact this
/-! ### codes; what is told is not empty -/
theorem CS.cycleN_le (sd : Nat) : ∀ (m : Nat) (x : CS), (CS.cycleN sd m x).1 ≤ 10
 | 0, _ => Nat.zero_le _
 | m + 1, x => by
   unfold CS.cycleN
   split
   · simp only; unfold CS.turnC; split <;> omega
   · exact CS.cycleN_le sd m _
theorem turnC_le10 {x : CS} {r : Int} : x.turnC r ≤ 10 := by unfold CS.turnC; split <;> omega
theorem CS.cmd_le (x : CS) (sd : Nat) (i : Nat) (n : List Int) : (x.cmdOp sd i n).2.1 ≤ 10 := by
 unfold CS.cmdOp
 split
 · exact PS.move10
 · show (x.stakeOp _ _ _).1 ≤ 10
   unfold CS.stakeOp
   split
   · exact PS.out10
   · split
     · exact SS.join10
     · simp
 · exact SS.leave10
 · exact KS.accuse10
 · exact CS.cycleN_le sd _ _
 · show (x.freeOp _).2.1 ≤ 10
   unfold CS.freeOp
   split
   · exact SS.free10
   · exact PS.in10
 · exact turnC_le10
 · exact turnC_le10
 all_goals exact Nat.zero_le _
theorem CS.line_le (x : CS) (sd : Nat) (s : ByteArray) : (x.lineOp sd s).2.1 ≤ 10 := by
 unfold CS.lineOp
 split
 · show 1 ≤ 10; decide
 · split
   · show 1 ≤ 10; decide
   · exact CS.cmd_le x sd _ _
end Go.Proofs.YtajnfkmkombajaaGreatDoor
namespace Go.Proofs.YtajnfkmkombajaaGreatDoor
open Go.RowKit Go.Maps
section
variable (A : Nat → Addr) (S : List Nat) (W : World) (F : Nat → Prop) (cb : Nat) (K : ChL) (n sd : Nat) (x : CS) (w : World)
set_option maxRecDepth 8000 in
theorem play_Bake (r : Int) (h : ChGo W F cb K n sd x w) (hx : x.Inv) (hs : sd < 18446744073709551616) (hE : Errs A S W) (hFE : ∀ c ∈ S, ¬ F (gE c)) (h2 : 2 ∈ S) (h3 : 3 ∈ S) (h4 : 4 ∈ S) (h6 : 6 ∈ S) (h9 : 9 ∈ S) (hW : x.s.W.length ≤ 8000) (hn : n + 1 ≤ 1000000) (hk : x.k.L.length ≤ 1000000) :
   Calls Tryz.prog 105 #[.pointer (some ⟨cb, 0, none⟩), .int .i64 r] w fun e w' => e = .returned (.tuple #[.int .i64 (x.btV sd r), .int .i64 (x.btN sd r), ev A (x.turnC r)]) ∧ ∃ K', ChGo W F cb K' (n + 1) sd (x.btS sd r) w' := by
 have H0 := Lib.hid h
 have HT := Lib.hid (chain_Turn A S W F cb K n sd x r w h hx hs hE hFE h2 h3 h4)
 have HB := Lib.hid (fun wx (hg : ChGo W F cb K n sd x wx) => chain_Bake A S W F cb K n sd x wx (x.turnV sd r) r hg hx hs hE hFE h2 h3 h4 h6 h9 hW hn hk)
 clear h hx hE hFE
 by_cases hc : x.turnC r = 0
 · have E1 := Lib.hid (show x.btV sd r = x.turnV sd r from if_pos hc)
   have E2 := Lib.hid (show x.btN sd r = (x.reward (x.turnV sd r)).1 from if_pos hc)
   have E3 := Lib.hid (show x.btS sd r = (x.reward (x.turnV sd r)).2.stepOp from if_pos hc)
   have E4 := Lib.hid (show x.bakeOp sd (x.turnV sd r) r = ((x.reward (x.turnV sd r)).1, 0, (x.reward (x.turnV sd r)).2.stepOp) by unfold CS.bakeOp; rw [if_neg (by simp [hc]), if_neg (by simp)])
   rw [E4.out] at HB
   simp only [ev_nil] at HB
   have HC := Lib.hid (show ev A (x.turnC r) = .nilIface by rw [hc]; rfl)
   rw [HC.out] at HT
   clear hc E4
   go_enter Tryz.func105, Tryz.ntmps105
   go_wp2_with fail
   refine HT.out.mono ?_
   rintro e w1 ⟨rfl, b1⟩
   have H1 := Lib.hid (H0.out.below b1); clear b1
   go_wp2_with fail
   refine (HB.out _ H1.out).mono ?_
   rintro e w2 ⟨rfl, K2, g2⟩
   have H2 := Lib.hid g2; clear g2
   go_wp2_with fail
   go_ret3
   exact ⟨by rw [E1.out, E2.out, HC.out]; rfl, by rw [E3.out]; exact ⟨K2, H2.out⟩⟩
 · have E1 := Lib.hid (show x.btV sd r = 0 from if_neg hc)
   have E2 := Lib.hid (show x.btN sd r = 0 from if_neg hc)
   have E3 := Lib.hid (show x.btS sd r = x from if_neg hc)
   have HC := Lib.hid (ev_some A hc)
   rw [HC.out] at HT
   clear hc
   go_enter Tryz.func105, Tryz.ntmps105
   go_wp2_with fail
   refine HT.out.mono ?_
   rintro e w1 ⟨rfl, b1⟩
   have H1 := Lib.hid (H0.out.below b1); clear b1
   go_wp2_with fail
   go_ret3
   exact ⟨by rw [E1.out, E2.out, HC.out]; rfl, by rw [E3.out]; exact ⟨K, H1.out.mono (Nat.le_succ n)⟩⟩
structure OneN (v q o b q6 k kk N m k4 q72 nn r : Int) : Prop where
 q1 : v.tdiv 8 = q
 q2 : v / 8 = q
 o1 : q.tmod 6 = o
 o2 : q % 6 = o
 a1 : q.tdiv 6 = q6
 a2 : q / 6 = q6
 b1 : q6.tmod 3 = b
 b2 : q6 % 3 = b
 k1 : q.tdiv 18 = k
 k2 : q / 18 = k
 c1 : k.tmod 2000 = kk
 c2 : k % 2000 = kk
 n1 : 1 + kk = N
 m1 : v.tmod 8 = m
 m2 : v % 8 = m
 d1 : k.tmod 4 = k4
 d2 : k % 4 = k4
 e1 : q.tdiv 72 = q72
 e2 : q / 72 = q72
 f1 : q72.tmod 5 = nn
 f2 : q72 % 5 = nn
 r1 : q.tmod 8 = r
 r2 : q % 8 = r
 bd : 0 ≤ q ∧ 0 ≤ kk ∧ kk < 2000 ∧ 0 ≤ k4 ∧ k4 < 4 ∧ 0 ≤ nn ∧ nn < 5 ∧ 0 ≤ b ∧ b < 3 ∧ 0 ≤ m ∧ m < 8
theorem OneN.of {v : Int} (h : 0 ≤ v) : OneN v (v / 8) (v / 8 % 6) (v / 8 / 6 % 3) (v / 8 / 6) (v / 8 / 18) (v / 8 / 18 % 2000) (1 + v / 8 / 18 % 2000) (v % 8) (v / 8 / 18 % 4) (v / 8 / 72) (v / 8 / 72 % 5) (v / 8 % 8) := by
 have hq : 0 ≤ v / 8 := by omega
 exact ⟨Int.tdiv_eq_ediv_of_nonneg h, rfl, Int.tmod_eq_emod_of_nonneg hq, rfl, Int.tdiv_eq_ediv_of_nonneg hq, rfl, Int.tmod_eq_emod_of_nonneg (by omega), rfl, Int.tdiv_eq_ediv_of_nonneg hq, rfl, Int.tmod_eq_emod_of_nonneg (by omega), rfl, rfl,
   Int.tmod_eq_emod_of_nonneg h, rfl, Int.tmod_eq_emod_of_nonneg (by omega), rfl, Int.tdiv_eq_ediv_of_nonneg hq, rfl, Int.tmod_eq_emod_of_nonneg (by omega), rfl, Int.tmod_eq_emod_of_nonneg hq, rfl, by omega⟩
end
end Go.Proofs.YtajnfkmkombajaaGreatDoor
namespace Go.Proofs.YtajnfkmkombajaaGreatDoor
open Go.RowKit Go.ChangeShapes Go.WideShapes Go.Deep
end Go.Proofs.YtajnfkmkombajaaGreatDoor
namespace Go.Proofs.YtajnfkmkombajaaGreatDoor
open Go.RowKit Go.Maps
section
variable (A : Nat → Addr) (S : List Nat) (W : World) (F : Nat → Prop) (cb : Nat) (K : ChL) (n sd : Nat) (x : CS) (w : World)
theorem chain_Bonus (h : ChGo W F cb K n sd x w) : Calls Tryz.prog 119 #[.pointer (some ⟨cb, 0, none⟩)] w fun e w' => e = .returned (.int .i64 x.bonus) ∧ w = w' := by
 have c := h.c6
 clear h
 go_enter Tryz.func119, Tryz.ntmps119
 go_wp2
 go_ret
 exact ⟨rfl, rfl⟩
structure DoB (w : World) (a : ActC) (w1 : World) : Prop where
 b0 : w1.cell? ⟨w.heap.size, 0, none⟩ = some (.string a.kind)
 b1 : w1.cell? ⟨w.heap.size, 1, none⟩ = some (.int .i64 a.o)
 b2 : w1.cell? ⟨w.heap.size, 2, none⟩ = some (.int .i64 a.t)
 b3 : w1.cell? ⟨w.heap.size, 3, none⟩ = some (.int .i64 a.b)
 b4 : w1.cell? ⟨w.heap.size, 4, none⟩ = some (.int .i64 a.n)
 b5 : w1.cell? ⟨w.heap.size, 5, none⟩ = some (.int .i64 a.round)
 b6 : w1.cell? ⟨w.heap.size, 6, none⟩ = some (.int .i64 a.e.b)
 b7 : w1.cell? ⟨w.heap.size, 7, none⟩ = some (.int .i64 a.e.c)
 b8 : w1.cell? ⟨w.heap.size, 8, none⟩ = some (.int .i64 a.e.n)
theorem DoB.of (w : World) (a : ActC) (t : TypeId) : DoB w a (w.alloc (.cells #[.string a.kind, .int .i64 a.o, .int .i64 a.t, .int .i64 a.b, .int .i64 a.n, .int .i64 a.round, .int .i64 a.e.b, .int .i64 a.e.c, .int .i64 a.e.n] t)) := by
 have hn := heap_alloc_new w (.cells #[.string a.kind, .int .i64 a.o, .int .i64 a.t, .int .i64 a.b, .int .i64 a.n, .int .i64 a.round, .int .i64 a.e.b, .int .i64 a.e.c, .int .i64 a.e.n] t)
 refine ⟨?_, ?_, ?_, ?_, ?_, ?_, ?_, ?_, ?_⟩
 all_goals (unfold World.cell?; rw [hn]; simp)
end
end Go.Proofs.YtajnfkmkombajaaGreatDoor
