/-
  Plain: what commands tell are ints; a chain's level stays below a bound. No program in sight.
  Scripts: what a command of the map does, whichever it is.
  The walk of a script: its answers; sums.
  Scripts: the numbers of a line, read by a form.
  Plain: a line cut at its spaces. No program in sight.
  Scripts: a line's pieces; what lies at its word.
-/
import Derived.Test.YtajnfkmkombajabGreatDoorQSR24
import Derived.Test.YtajnfkmkombajabGreatDoorQSR26
import Derived.Test.YtajnfkmkombajabGreatDoorQSR19
import Derived.Deep.AppendLies
import Derived.Deep.LoopGhost
import Derived.Test.YtajnfkmkombajabGreatDoorQSR03
import Derived.Lib.Split
import Derived.Lib.SplitLaws
set_option linter.unusedVariables false
set_option linter.unusedSimpArgs false
set_option linter.unusedVariables false
namespace Go.Proofs.YtajnfkmkombajabGreatDoor
open Go.RowKit

def Lv (x : CS) : Prop := x.level ≤ 4194305
theorem CS.bt_lv {x : CS} (h : Lv x) (sd : Nat) (r : Int) : Lv (x.btS sd r) := by
  unfold CS.btS
  split
  · next hc =>
    have hr := (turnC_zero hc).2.1.2
    have hl : (x.reward (x.turnV sd r)).2.level = x.level := by
      unfold CS.reward
      split
      · rfl
      · split
        · rfl
        · split <;> rfl
    have hj : ∀ (l : List (Int × EV)) (c : CS), (l.foldl CS.judge c).level = c.level := by
      intro l
      induction l with
      | nil => intro c; rfl
      | cons y l ih => intro c; rw [List.foldl_cons, ih]; rfl
    show ((x.reward (x.turnV sd r)).2.stepOp).level ≤ _
    unfold CS.stepOp
    split
    · show (CS.judged _).level ≤ _
      unfold CS.judged
      rw [hj, hl]; show x.level + 1 ≤ _; omega
    · show (x.reward (x.turnV sd r)).2.level + 1 ≤ _
      rw [hl]; omega
  · exact h
theorem CS.cycleN_lv (sd : Nat) : ∀ (m : Nat) {x : CS}, Lv x → Lv (CS.cycleN sd m x).2
  | 0, _, h => h
  | m + 1, x, h => by
    unfold CS.cycleN
    split
    · exact h
    · exact CS.cycleN_lv sd m (CS.bt_lv h sd 0)
theorem CS.cmd_lv {x : CS} (h : Lv x) (sd : Nat) (i : Nat) (n : List Int) : Lv (x.cmdOp sd i n).2.2 := by
  unfold CS.cmdOp
  split
  · exact h
  · show (x.stakeOp _ _ _).2.level ≤ _
    unfold CS.stakeOp
    split
    · exact h
    · split <;> exact h
  · exact h
  · exact h
  · exact CS.cycleN_lv sd _ h
  · show (x.freeOp _).2.2.level ≤ _
    unfold CS.freeOp
    split <;> exact h
  · exact h
  · exact CS.bt_lv h sd _
  all_goals exact h
theorem CS.line_lv {x : CS} (h : Lv x) (sd : Nat) (s : ByteArray) : Lv (x.lineOp sd s).2.2 := by
  unfold CS.lineOp
  split
  · exact h
  · split
    · exact h
    · exact CS.cmd_lv h sd _ _

def Amt (n : Int) : Prop := 0 ≤ n ∧ n ≤ 1125899906842624
theorem Amt.zero : Amt 0 := ⟨Int.le_refl _, by decide⟩
theorem SS.pool_ok {s : SS} (h : s.Ok) {k : Int} {q : QS} (hq : s.pool k = some q) : q.Ok := by
  obtain ⟨h0, h3⟩ := h.lt hq
  unfold SS.pool at hq
  rw [if_pos h0] at hq
  refine h.pools q ?_
  have : k.toNat < s.P.length := by rw [h.three]; omega
  rw [List.getD_eq_getElem?_getD, List.getElem?_eq_getElem this] at hq
  simp only [Option.getD_some] at hq
  rw [← hq]; exact List.getElem_mem this
theorem SS.staked_amt {s : SS} (h : s.Ok) (k : Int) : Amt (s.staked k) := by
  unfold SS.staked
  cases hq : s.pool k with
  | none => exact Amt.zero
  | some q => have := SS.pool_ok h hq; exact ⟨this.t0, this.t1⟩
theorem SS.value_amt {s : SS} (h : s.Ok) (o k : Int) : Amt (s.value o k) := by
  unfold SS.value
  cases hq : s.pool k with
  | none => exact Amt.zero
  | some q =>
    have := SS.pool_ok h hq
    have hb := this.value_bd o
    exact ⟨hb.1, Int.le_trans hb.2 this.t1⟩
theorem SS.waits_amt {s : SS} (h : s.Ok) (o k c : Int) : Amt (s.waits o k c) := by
  unfold SS.waits SS.find
  cases hq : s.W.find? (·.at k c) with
  | none => exact Amt.zero
  | some y =>
    have := (h.waits y (List.mem_of_find?_eq_some hq)).1
    have hb := this.value_bd o
    exact ⟨hb.1, Int.le_trans hb.2 this.t1⟩
theorem CS.free_amt {x : CS} (h : x.Inv) (o : Int) : Amt (x.freeOp o).1 := by
  obtain ⟨f1, f2, f3⟩ := SS.free_total h.s o x.cycle
  have fs := SS.freeOp_ok h.s o x.cycle
  have t0 := fs.total_bd.1
  have hb := h.bal; have hm := h.p.most; have s0 := h.p.sum_bd
  unfold CS.freeOp
  split
  · exact Amt.zero
  · exact ⟨f2, by simp only; omega⟩
theorem CS.bt_amt {x : CS} (h : x.Inv) (sd : Nat) (r : Int) : Amt (x.btV sd r) ∧ Amt (x.btN sd r) := by
  have hv := turnV_bd h sd r
  obtain ⟨i1, i2, i3, i4, i5⟩ := CS.reward_inv h (x.turnV sd r)
  have hm := CS.reward_most h (x.turnV sd r)
  unfold CS.btV CS.btN
  split
  · exact ⟨⟨hv.1, by omega⟩, ⟨i2, hm⟩⟩
  · exact ⟨Amt.zero, Amt.zero⟩
end Go.Proofs.YtajnfkmkombajabGreatDoor
namespace Go.Proofs.YtajnfkmkombajabGreatDoor
open Go.RowKit Go.Maps

theorem Amt.i64 {n : Int} (h : Amt n) : I64 n := ⟨by have := h.1; omega, by have := h.2; omega⟩
/-- behind a command -/
def Done (A : Nat → Addr) (w : World) (F : Nat → Prop) (cb sd m : Nat) (r : ByteArray × Nat × CS) (e : Ending) (w' : World) : Prop := e = .returned (.tuple #[.string r.1, ev A r.2.1]) ∧ Left w F cb sd m r.2.2 w'
/-- what is entered where the value fv is called with p and nv -/
def Doing (fv p nv : Value) (w : World) (Q : Ending → World → Prop) : Prop :=
  (∃ f h, fv = closV f h ∧ Entered f ∧ Calls Tryz.prog f #[p, nv, .pointer (some ⟨h, 0, none⟩)] w Q) ∨ (∃ f, fv = fnV f ∧ Entered f ∧ Calls Tryz.prog f #[p, nv] w Q)
theorem scr_ent0 : Entered 37 := fun _ _ => enters_of Tryz.func37 (by kernel_rfl) rfl _ _
theorem scr_ent1 : Entered 39 := fun _ _ => enters_of Tryz.func39 (by kernel_rfl) rfl _ _
theorem scr_ent2 : Entered 40 := fun _ _ => enters_of Tryz.func40 (by kernel_rfl) rfl _ _
theorem scr_ent3 : Entered 42 := fun _ _ => enters_of Tryz.func42 (by kernel_rfl) rfl _ _
theorem scr_ent4 : Entered 44 := fun _ _ => enters_of Tryz.func44 (by kernel_rfl) rfl _ _
theorem scr_ent5 : Entered 47 := fun _ _ => enters_of Tryz.func47 (by kernel_rfl) rfl _ _
theorem scr_ent6 : Entered 49 := fun _ _ => enters_of Tryz.func49 (by kernel_rfl) rfl _ _
theorem scr_ent7 : Entered 51 := fun _ _ => enters_of Tryz.func51 (by kernel_rfl) rfl _ _
theorem scr_ent8 : Entered 55 := fun _ _ => enters_of Tryz.func55 (by kernel_rfl) rfl _ _
theorem scr_ent9 : Entered 57 := fun _ _ => enters_of Tryz.func57 (by kernel_rfl) rfl _ _
theorem scr_ent10 : Entered 59 := fun _ _ => enters_of Tryz.func59 (by kernel_rfl) rfl _ _
theorem scr_ent11 : Entered 61 := fun _ _ => enters_of Tryz.func61 (by kernel_rfl) rfl _ _
theorem scr_ent12 : Entered 63 := fun _ _ => enters_of Tryz.func63 (by kernel_rfl) rfl _ _
theorem scr_ent13 : Entered 65 := fun _ _ => enters_of Tryz.func65 (by kernel_rfl) rfl _ _
theorem scr_ent14 : Entered 67 := fun _ _ => enters_of Tryz.func67 (by kernel_rfl) rfl _ _
theorem scr_ent_act : Entered 84 := fun _ _ => enters_of Tryz.func84 (by kernel_rfl) rfl _ _
theorem scr_ent_tell : Entered 88 := fun _ _ => enters_of Tryz.func88 (by kernel_rfl) rfl _ _

section
variable (A : Nat → Addr) (W : World) (cb : Nat) (K : ChL) (n sd : Nat) (x : CS) (pb : Nat) (w : World) (ao : Option Addr) (cap : Nat) (ns : List Int)
theorem Left.lib {A : Nat → Addr} {W : World} {cb : Nat} {K : ChL} {n sd : Nat} {x : CS} {pb : Nat} {w w1 : World} {q : Nat} {y : CS} (h : CmdIn A W cb K n sd x pb w) (g : Left w (K.foot cb) cb sd q y w1) : Lw A w1 := by
  obtain ⟨K', m, -, g⟩ := g
  exact h.lw.below (h.cn.of g).below

theorem scr_do0 (fv : Value) (h : CmdIn A W cb K n sd x pb w) (hf : CmdFv w 0 fv) (R : RdI .i64 w ao 3 cap ns) (hb : ∀ a, ao = some a → ¬ K.foot cb a.block) (hns : ∀ v ∈ ns, 0 ≤ v ∧ v ≤ 9999999) :
    Doing fv (.pointer (some ⟨pb, 0, none⟩)) (.slice ao 3 cap) w (Done A w (K.foot cb) cb sd (n + 6 + x.s.W.length) (x.cmdOp sd 0 ns)) := by
  obtain ⟨q, rfl, hq⟩ : ∃ q, fv = closV 84 q ∧ w.cell? ⟨q, 0, none⟩ = some (fnV (cmdFn 0)) := hf
  exact .inl ⟨_, q, rfl, scr_ent_act, scr_act1 A _ q _ _ w _ _ scr_ent0 hq (scr_cmd0 A W cb K n sd x pb w ao cap ns h R hb hns)⟩

theorem scr_do1 (fv : Value) (h : CmdIn A W cb K n sd x pb w) (hf : CmdFv w 1 fv) (R : RdI .i64 w ao 3 cap ns) (hb : ∀ a, ao = some a → ¬ K.foot cb a.block) (hns : ∀ v ∈ ns, 0 ≤ v ∧ v ≤ 9999999) :
    Doing fv (.pointer (some ⟨pb, 0, none⟩)) (.slice ao 3 cap) w (Done A w (K.foot cb) cb sd (n + 6 + x.s.W.length) (x.cmdOp sd 1 ns)) := by
  obtain ⟨q, rfl, hq⟩ : ∃ q, fv = closV 84 q ∧ w.cell? ⟨q, 0, none⟩ = some (fnV (cmdFn 1)) := hf
  exact .inl ⟨_, q, rfl, scr_ent_act, scr_act1 A _ q _ _ w _ _ scr_ent1 hq (scr_cmd1 A W cb K n sd x pb w ao cap ns h R hb hns)⟩

theorem scr_do2 (fv : Value) (h : CmdIn A W cb K n sd x pb w) (hf : CmdFv w 2 fv) (R : RdI .i64 w ao 3 cap ns) (hb : ∀ a, ao = some a → ¬ K.foot cb a.block) (hns : ∀ v ∈ ns, 0 ≤ v ∧ v ≤ 9999999) :
    Doing fv (.pointer (some ⟨pb, 0, none⟩)) (.slice ao 3 cap) w (Done A w (K.foot cb) cb sd (n + 6 + x.s.W.length) (x.cmdOp sd 2 ns)) := by
  obtain ⟨q, rfl, hq⟩ : ∃ q, fv = closV 84 q ∧ w.cell? ⟨q, 0, none⟩ = some (fnV (cmdFn 2)) := hf
  exact .inl ⟨_, q, rfl, scr_ent_act, scr_act1 A _ q _ _ w _ _ scr_ent2 hq (scr_cmd2 A W cb K n sd x pb w ao cap ns h R hb hns)⟩

theorem scr_do3 (fv : Value) (h : CmdIn A W cb K n sd x pb w) (hf : CmdFv w 3 fv) (R : RdI .i64 w ao 4 cap ns) (hb : ∀ a, ao = some a → ¬ K.foot cb a.block) (hns : ∀ v ∈ ns, 0 ≤ v ∧ v ≤ 9999999) :
    Doing fv (.pointer (some ⟨pb, 0, none⟩)) (.slice ao 4 cap) w (Done A w (K.foot cb) cb sd (n + 6 + x.s.W.length) (x.cmdOp sd 3 ns)) := by
  obtain ⟨q, rfl, hq⟩ : ∃ q, fv = closV 84 q ∧ w.cell? ⟨q, 0, none⟩ = some (fnV (cmdFn 3)) := hf
  exact .inl ⟨_, q, rfl, scr_ent_act, scr_act1 A _ q _ _ w _ _ scr_ent3 hq (scr_cmd3 A W cb K n sd x pb w ao cap ns h R hb hns)⟩

theorem scr_do4 (fv : Value) (h : CmdIn A W cb K n sd x pb w) (hf : CmdFv w 4 fv) (R : RdI .i64 w ao 0 cap ns) (hb : ∀ a, ao = some a → ¬ K.foot cb a.block) (hns : ∀ v ∈ ns, 0 ≤ v ∧ v ≤ 9999999) :
    Doing fv (.pointer (some ⟨pb, 0, none⟩)) (.slice ao 0 cap) w (Done A w (K.foot cb) cb sd (n + 6 + x.s.W.length) (x.cmdOp sd 4 ns)) := by
  obtain ⟨q, rfl, hq⟩ : ∃ q, fv = closV 84 q ∧ w.cell? ⟨q, 0, none⟩ = some (fnV (cmdFn 4)) := hf
  exact .inl ⟨_, q, rfl, scr_ent_act, scr_act1 A _ q _ _ w _ _ scr_ent4 hq (scr_cmd4 A W cb K n sd x pb w _ ns h)⟩

theorem scr_do5 (fv : Value) (h : CmdIn A W cb K n sd x pb w) (hf : CmdFv w 5 fv) (R : RdI .i64 w ao 1 cap ns) (hb : ∀ a, ao = some a → ¬ K.foot cb a.block) (hns : ∀ v ∈ ns, 0 ≤ v ∧ v ≤ 9999999) :
    Doing fv (.pointer (some ⟨pb, 0, none⟩)) (.slice ao 1 cap) w (Done A w (K.foot cb) cb sd (n + 6 + x.s.W.length) (x.cmdOp sd 5 ns)) := by
  obtain ⟨q, rfl, hq⟩ : ∃ q, fv = closV 88 q ∧ w.cell? ⟨q, 0, none⟩ = some (fnV (cmdFn 5)) := hf
  exact .inl ⟨_, q, rfl, scr_ent_tell, scr_tell1 A _ q _ _ w _ _ _ ((CS.free_amt h.inv _).i64) (fun w1 g => g.lib h) (fun w1 w2 g b => g.below b) scr_ent5 hq (scr_cmd5 A W cb K n sd x pb w ao cap ns h R hb hns)⟩

theorem scr_do6 (fv : Value) (h : CmdIn A W cb K n sd x pb w) (hf : CmdFv w 6 fv) (R : RdI .i64 w ao 1 cap ns) (hb : ∀ a, ao = some a → ¬ K.foot cb a.block) (hns : ∀ v ∈ ns, 0 ≤ v ∧ v ≤ 9999999) :
    Doing fv (.pointer (some ⟨pb, 0, none⟩)) (.slice ao 1 cap) w (Done A w (K.foot cb) cb sd (n + 6 + x.s.W.length) (x.cmdOp sd 6 ns)) := by
  obtain ⟨q, rfl, hq⟩ : ∃ q, fv = closV 88 q ∧ w.cell? ⟨q, 0, none⟩ = some (fnV (cmdFn 6)) := hf
  exact .inl ⟨_, q, rfl, scr_ent_tell, scr_tell1 A _ q _ _ w _ _ _ ((show Amt _ from ⟨(turnV_bd h.inv sd _).1, by have := (turnV_bd h.inv sd (ns.getD 0 0)).2; omega⟩).i64) (fun w1 g => g.lib h) (fun w1 w2 g b => g.below b) scr_ent6 hq (scr_cmd6 A W cb K n sd x pb w ao cap ns h R hb hns)⟩

theorem scr_do7 (fv : Value) (h : CmdIn A W cb K n sd x pb w) (hf : CmdFv w 7 fv) (R : RdI .i64 w ao 1 cap ns) (hb : ∀ a, ao = some a → ¬ K.foot cb a.block) (hns : ∀ v ∈ ns, 0 ≤ v ∧ v ≤ 9999999) :
    Doing fv (.pointer (some ⟨pb, 0, none⟩)) (.slice ao 1 cap) w (Done A w (K.foot cb) cb sd (n + 6 + x.s.W.length) (x.cmdOp sd 7 ns)) := by
  obtain rfl : fv = fnV (cmdFn 7) := hf
  exact .inr ⟨_, rfl, scr_ent7, scr_cmd7 A W cb K n sd x pb w ao cap ns h R hb (CS.bt_amt h.inv sd _).1.i64 (CS.bt_amt h.inv sd _).2.i64⟩

theorem scr_do8 (fv : Value) (h : CmdIn A W cb K n sd x pb w) (hf : CmdFv w 8 fv) (R : RdI .i64 w ao 1 cap ns) (hb : ∀ a, ao = some a → ¬ K.foot cb a.block) (hns : ∀ v ∈ ns, 0 ≤ v ∧ v ≤ 9999999) :
    Doing fv (.pointer (some ⟨pb, 0, none⟩)) (.slice ao 1 cap) w (Done A w (K.foot cb) cb sd (n + 6 + x.s.W.length) (x.cmdOp sd 8 ns)) := by
  obtain ⟨q, q2, rfl, hq, hq2⟩ : ∃ q q2, fv = closV 88 q ∧ w.cell? ⟨q, 0, none⟩ = some (closV 93 q2) ∧ w.cell? ⟨q2, 0, none⟩ = some (fnV (cmdFn 8)) := hf
  exact .inl ⟨_, q, rfl, scr_ent_tell, scr_look2 A _ q _ _ w _ q2 _ ((show Amt _ from by split; exact ⟨(h.inv.p.at_bd _).1, by have := (h.inv.p.at_bd (ns.getD 0 0)).2; have := h.inv.p.le; have := h.inv.p.most; omega⟩; exact Amt.zero).i64) (fun w1 g => g.lib h) (fun w1 w2 g b => g.below b) scr_ent8 hq hq2 (scr_cmd8 A W cb K n sd x pb w ao cap ns h R hb hns)⟩

theorem scr_do9 (fv : Value) (h : CmdIn A W cb K n sd x pb w) (hf : CmdFv w 9 fv) (R : RdI .i64 w ao 1 cap ns) (hb : ∀ a, ao = some a → ¬ K.foot cb a.block) (hns : ∀ v ∈ ns, 0 ≤ v ∧ v ≤ 9999999) :
    Doing fv (.pointer (some ⟨pb, 0, none⟩)) (.slice ao 1 cap) w (Done A w (K.foot cb) cb sd (n + 6 + x.s.W.length) (x.cmdOp sd 9 ns)) := by
  obtain ⟨q, q2, rfl, hq, hq2⟩ : ∃ q q2, fv = closV 88 q ∧ w.cell? ⟨q, 0, none⟩ = some (closV 93 q2) ∧ w.cell? ⟨q2, 0, none⟩ = some (fnV (cmdFn 9)) := hf
  exact .inl ⟨_, q, rfl, scr_ent_tell, scr_look2 A _ q _ _ w _ q2 _ ((SS.staked_amt h.inv.s _).i64) (fun w1 g => g.lib h) (fun w1 w2 g b => g.below b) scr_ent9 hq hq2 (scr_cmd9 A W cb K n sd x pb w ao cap ns h R hb hns)⟩

theorem scr_do10 (fv : Value) (h : CmdIn A W cb K n sd x pb w) (hf : CmdFv w 10 fv) (R : RdI .i64 w ao 2 cap ns) (hb : ∀ a, ao = some a → ¬ K.foot cb a.block) (hns : ∀ v ∈ ns, 0 ≤ v ∧ v ≤ 9999999) :
    Doing fv (.pointer (some ⟨pb, 0, none⟩)) (.slice ao 2 cap) w (Done A w (K.foot cb) cb sd (n + 6 + x.s.W.length) (x.cmdOp sd 10 ns)) := by
  obtain ⟨q, q2, rfl, hq, hq2⟩ : ∃ q q2, fv = closV 88 q ∧ w.cell? ⟨q, 0, none⟩ = some (closV 93 q2) ∧ w.cell? ⟨q2, 0, none⟩ = some (fnV (cmdFn 10)) := hf
  exact .inl ⟨_, q, rfl, scr_ent_tell, scr_look2 A _ q _ _ w _ q2 _ ((SS.value_amt h.inv.s _ _).i64) (fun w1 g => g.lib h) (fun w1 w2 g b => g.below b) scr_ent10 hq hq2 (scr_cmd10 A W cb K n sd x pb w ao cap ns h R hb hns)⟩

theorem scr_do11 (fv : Value) (h : CmdIn A W cb K n sd x pb w) (hf : CmdFv w 11 fv) (R : RdI .i64 w ao 3 cap ns) (hb : ∀ a, ao = some a → ¬ K.foot cb a.block) (hns : ∀ v ∈ ns, 0 ≤ v ∧ v ≤ 9999999) :
    Doing fv (.pointer (some ⟨pb, 0, none⟩)) (.slice ao 3 cap) w (Done A w (K.foot cb) cb sd (n + 6 + x.s.W.length) (x.cmdOp sd 11 ns)) := by
  obtain ⟨q, q2, rfl, hq, hq2⟩ : ∃ q q2, fv = closV 88 q ∧ w.cell? ⟨q, 0, none⟩ = some (closV 93 q2) ∧ w.cell? ⟨q2, 0, none⟩ = some (fnV (cmdFn 11)) := hf
  exact .inl ⟨_, q, rfl, scr_ent_tell, scr_look2 A _ q _ _ w _ q2 _ ((SS.waits_amt h.inv.s _ _ _).i64) (fun w1 g => g.lib h) (fun w1 w2 g b => g.below b) scr_ent11 hq hq2 (scr_cmd11 A W cb K n sd x pb w ao cap ns h R hb hns)⟩

theorem scr_do12 (fv : Value) (h : CmdIn A W cb K n sd x pb w) (hf : CmdFv w 12 fv) (R : RdI .i64 w ao 0 cap ns) (hb : ∀ a, ao = some a → ¬ K.foot cb a.block) (hns : ∀ v ∈ ns, 0 ≤ v ∧ v ≤ 9999999) :
    Doing fv (.pointer (some ⟨pb, 0, none⟩)) (.slice ao 0 cap) w (Done A w (K.foot cb) cb sd (n + 6 + x.s.W.length) (x.cmdOp sd 12 ns)) := by
  obtain ⟨q, q2, rfl, hq, hq2⟩ : ∃ q q2, fv = closV 88 q ∧ w.cell? ⟨q, 0, none⟩ = some (closV 93 q2) ∧ w.cell? ⟨q2, 0, none⟩ = some (fnV (cmdFn 12)) := hf
  exact .inl ⟨_, q, rfl, scr_ent_tell, scr_look2 A _ q _ _ w _ q2 _ ((show Amt _ from ⟨by have := h.inv.p.le; have := h.inv.p.sum_bd; omega, h.inv.p.most⟩).i64) (fun w1 g => g.lib h) (fun w1 w2 g b => g.below b) scr_ent12 hq hq2 (scr_cmd12 A W cb K n sd x pb w ao cap ns h R hb hns)⟩

theorem scr_do13 (fv : Value) (h : CmdIn A W cb K n sd x pb w) (hf : CmdFv w 13 fv) (R : RdI .i64 w ao 0 cap ns) (hb : ∀ a, ao = some a → ¬ K.foot cb a.block) (hns : ∀ v ∈ ns, 0 ≤ v ∧ v ≤ 9999999) :
    Doing fv (.pointer (some ⟨pb, 0, none⟩)) (.slice ao 0 cap) w (Done A w (K.foot cb) cb sd (n + 6 + x.s.W.length) (x.cmdOp sd 13 ns)) := by
  obtain ⟨q, q2, rfl, hq, hq2⟩ : ∃ q q2, fv = closV 88 q ∧ w.cell? ⟨q, 0, none⟩ = some (closV 93 q2) ∧ w.cell? ⟨q2, 0, none⟩ = some (fnV (cmdFn 13)) := hf
  exact .inl ⟨_, q, rfl, scr_ent_tell, scr_look2 A _ q _ _ w _ q2 _ ((show Amt _ from ⟨h.inv.b0, by have := h.inv.b1; omega⟩).i64) (fun w1 g => g.lib h) (fun w1 w2 g b => g.below b) scr_ent13 hq hq2 (scr_cmd13 A W cb K n sd x pb w ao cap ns h R hb hns)⟩

theorem scr_do14 (fv : Value) (h : CmdIn A W cb K n sd x pb w) (hf : CmdFv w 14 fv) (R : RdI .i64 w ao 0 cap ns) (hb : ∀ a, ao = some a → ¬ K.foot cb a.block) (hns : ∀ v ∈ ns, 0 ≤ v ∧ v ≤ 9999999) :
    Doing fv (.pointer (some ⟨pb, 0, none⟩)) (.slice ao 0 cap) w (Done A w (K.foot cb) cb sd (n + 6 + x.s.W.length) (x.cmdOp sd 14 ns)) := by
  obtain rfl : fv = fnV (cmdFn 14) := hf
  exact .inr ⟨_, rfl, scr_ent14, scr_cmd14 A W cb K n sd x pb w _ ns h⟩

theorem scr_does (j : Nat) (hj : j < 15) (fv : Value) (h : CmdIn A W cb K n sd x pb w) (hf : CmdFv w j fv) (hl : ns.length = (cmdForm j).length) (R : RdI .i64 w ao ns.length cap ns) (hb : ∀ a, ao = some a → ¬ K.foot cb a.block) (hns : ∀ v ∈ ns, 0 ≤ v ∧ v ≤ 9999999) :
    Doing fv (.pointer (some ⟨pb, 0, none⟩)) (.slice ao ns.length cap) w (Done A w (K.foot cb) cb sd (n + 6 + x.s.W.length) (x.cmdOp sd j ns)) := by
  match j, hj with
  | 0, _ => have e : ns.length = 3 := hl; rw [e] at R ⊢; exact scr_do0 A W cb K n sd x pb w ao cap ns fv h hf R hb hns
  | 1, _ => have e : ns.length = 3 := hl; rw [e] at R ⊢; exact scr_do1 A W cb K n sd x pb w ao cap ns fv h hf R hb hns
  | 2, _ => have e : ns.length = 3 := hl; rw [e] at R ⊢; exact scr_do2 A W cb K n sd x pb w ao cap ns fv h hf R hb hns
  | 3, _ => have e : ns.length = 4 := hl; rw [e] at R ⊢; exact scr_do3 A W cb K n sd x pb w ao cap ns fv h hf R hb hns
  | 4, _ => have e : ns.length = 0 := hl; rw [e] at R ⊢; exact scr_do4 A W cb K n sd x pb w ao cap ns fv h hf R hb hns
  | 5, _ => have e : ns.length = 1 := hl; rw [e] at R ⊢; exact scr_do5 A W cb K n sd x pb w ao cap ns fv h hf R hb hns
  | 6, _ => have e : ns.length = 1 := hl; rw [e] at R ⊢; exact scr_do6 A W cb K n sd x pb w ao cap ns fv h hf R hb hns
  | 7, _ => have e : ns.length = 1 := hl; rw [e] at R ⊢; exact scr_do7 A W cb K n sd x pb w ao cap ns fv h hf R hb hns
  | 8, _ => have e : ns.length = 1 := hl; rw [e] at R ⊢; exact scr_do8 A W cb K n sd x pb w ao cap ns fv h hf R hb hns
  | 9, _ => have e : ns.length = 1 := hl; rw [e] at R ⊢; exact scr_do9 A W cb K n sd x pb w ao cap ns fv h hf R hb hns
  | 10, _ => have e : ns.length = 2 := hl; rw [e] at R ⊢; exact scr_do10 A W cb K n sd x pb w ao cap ns fv h hf R hb hns
  | 11, _ => have e : ns.length = 3 := hl; rw [e] at R ⊢; exact scr_do11 A W cb K n sd x pb w ao cap ns fv h hf R hb hns
  | 12, _ => have e : ns.length = 0 := hl; rw [e] at R ⊢; exact scr_do12 A W cb K n sd x pb w ao cap ns fv h hf R hb hns
  | 13, _ => have e : ns.length = 0 := hl; rw [e] at R ⊢; exact scr_do13 A W cb K n sd x pb w ao cap ns fv h hf R hb hns
  | 14, _ => have e : ns.length = 0 := hl; rw [e] at R ⊢; exact scr_do14 A W cb K n sd x pb w ao cap ns fv h hf R hb hns
end
end Go.Proofs.YtajnfkmkombajabGreatDoor
namespace Go.Proofs.YtajnfkmkombajabGreatDoor
open Go.RowKit Go.Maps

theorem code_ev (A : Nat → Addr) (c : Nat) (hc : c ≤ 10) (w : World) (hS : Sents A w) : Calls Tryz.prog 13 #[ev A c] w (CodePost c (-1) w) := by
  by_cases h0 : c = 0
  · subst h0; exact code_nil w
  · have := code_bare A c (by omega) hc w hS
    rw [ev_some A h0]; exact this

/-- since world w0, among the blocks F: a chain that plays a script: what it has answered so far lies in out -/
structure PRun (w0 : World) (F : Nat → Prop) (cb : Nat) (K : ChL) (n sd : Nat) (x : CS) (out : Value) (ans : List Int) (ao : Option Addr) (len cap : Nat) (zs : List Int) (w : World) : Prop where
  go : ChGo w0 F cb K n sd x w
  own : w.ownsRow w0.heap.size 3 1 out ans.length (ans.map (Value.int .i64))
  sep : ∀ g, out.ownBlock = some g → ¬ K.foot cb g
  rd : RdI .i64 w ao len cap zs
  rds : ∀ a, ao = some a → a.block < w0.heap.size ∧ ¬ K.foot cb a.block
section
variable {w0 w w' : World} {F : Nat → Prop} {cb n m sd len cap : Nat} {K K' : ChL} {x y : CS} {out : Value} {ans : List Int} {ao : Option Addr} {zs : List Int}
theorem PRun.size (h : PRun w0 F cb K n sd x out ans ao len cap zs w) : w0.heap.size ≤ w.heap.size := h.go.keep.size
theorem PRun.step (h : PRun w0 F cb K n sd x out ans ao len cap zs w) (k : ChGo w (K.foot cb) cb K' m sd y w') : PRun w0 F cb K' m sd y out ans ao len cap zs w' :=
  ⟨h.go.step k.keep (fun _ hb => hb) k.ch k.foot, ownsRow_other h.own (fun g hg => k.keep.block g (h.own.lt g hg).2 (h.sep g hg)), fun g hg hf => by
    rcases k.foot g hf with e | e
    · exact h.sep g hg e
    · have := (h.own.lt g hg).2; omega,
   h.rd.keepX k.keep (fun a ha => (h.rds a ha).2), fun a ha => ⟨(h.rds a ha).1, fun hf => by
    rcases k.foot _ hf with e | e
    · exact (h.rds a ha).2 e
    · have := (h.rds a ha).1; have := h.size; omega⟩⟩
theorem PRun.next (h : PRun w0 F cb K n sd x out ans ao len cap zs w) (k : Below w.heap.size w w') : PRun w0 F cb K n sd x out ans ao len cap zs w' :=
  ⟨h.go.below k, ownsRow_other h.own (fun g hg => k.block g (h.own.lt g hg).2), h.sep, h.rd.below k, h.rds⟩
theorem PRun.append {g cp : Nat} {c : Int} {ob : Obj} {w1 : World} (h : PRun w0 F cb K n sd x out ans ao len cap zs w) (hg : (w.alloc ob).grownBy w1 out.ownBlock) (hor : out.ownBlock = some g ∨ g = w.heap.size + 1)
    (ho : w1.ownsRow w0.heap.size 3 1 (.slice (some ⟨g, 0, none⟩) (ans.length + 1) cp) (ans.length + 1) (ans.map (Value.int .i64) ++ [.int .i64 c])) :
    PRun w0 F cb K n sd x (.slice (some ⟨g, 0, none⟩) (ans.length + 1) cp) (ans ++ [c]) ao len cap zs w1 := by
  have K1 : Keep (fun b => out.ownBlock = some b) w w1 := ((Keep.refl _ _).alloc ob).grown hg (fun k hk => .inl hk)
  refine ⟨⟨h.go.keep.andThen K1 (fun b hb => .inr (h.own.lt b hb).1), h.go.ch.keep K1 (fun b hb hf => h.sep b hf hb), fun b hb => (h.go.foot b hb).imp id (fun e => ⟨e.1, Nat.lt_of_lt_of_le e.2 K1.size⟩), h.go.Flt⟩, ?_, fun g' hg' hf => ?_, h.rd.keepX K1 (fun a ha hb => ?_), h.rds⟩
  · rw [List.length_append, List.map_append]; exact ho
  · have : g' = g := by simpa [Value.ownBlock] using hg'.symm
    subst this
    rcases hor with e | e
    · exact h.sep g' e hf
    · have := h.go.ch.footlt g' hf; omega
  · have := (h.rds a ha).1; have := (h.own.lt _ hb).1; omega
end

end Go.Proofs.YtajnfkmkombajabGreatDoor
namespace Go.Proofs.YtajnfkmkombajabGreatDoor
open Go.RowKit Go.Maps

def strE (s : ByteArray) : List Value := [.string s]
theorem readZ_prefix : ∀ (l : List (UInt8 × ByteArray)) (k : Nat), readZ (l.take k) = none → readZ l = none
  | [], _, h => by simp [readZ] at h
  | y :: l, 0, h => by simp [readZ] at h
  | y :: l, k + 1, h => by
    rw [List.take_succ_cons] at h
    unfold readZ at h ⊢
    cases hy : formNum y.1 y.2 with
    | none => rfl
    | some v =>
      rw [hy] at h
      cases hl : readZ (l.take k) with
      | none => rw [readZ_prefix l k hl]
      | some r => rw [hl] at h; cases h
theorem numOf_none {s : ByteArray} (h : numOf s = none) : (numOf s).isSome = false := by rw [h]; rfl

/-- what read hands back -/
def ReadPost (w : World) (r : Option (List Int)) (e : Ending) (w' : World) : Prop :=
  ∃ v, e = .returned (.tuple #[v, .bool r.isSome]) ∧ Below w.heap.size w w' ∧ ∀ ns, r = some ns → w'.ownsRow w.heap.size 3 1 v ns.length (ns.map (Value.int .i64))

set_option maxRecDepth 8000 in
set_option maxHeartbeats 1000000 in
theorem scr_read (A : Nat → Addr) (fl : List UInt8) (form : ByteArray) (hform : form = bstr fl) (hf8 : fl.length ≤ 8) (ao : Option Addr) (len cap : Nat) (ws : List ByteArray) (w : World) (R : RdR strE 1 w ao len cap ws) (hws : ∀ s ∈ ws, s.size ≤ 1000000) (hl : len ≤ 1000000) (h : Lw A w) :
    Calls Tryz.prog 23 #[.string form, .slice ao len cap] w (ReadPost w (readB fl ws)) := by
  obtain ⟨i0, hi, hz0, hz1, hz2⟩ := info_parts Tryz.infoInt
  have hsz : form.size = fl.length := by rw [hform]; simp [bstr, ByteArray.size]
  have hlw := R.size
  by_cases hlen : fl.length = ws.length
  case neg =>
    have hr : readB fl ws = none := if_neg hlen
    have ne : ((form.size : Int) != (len : Int)) = true := by rw [hsz, ← hlw]; simp; omega
    rw [hr]
    clear hr hlen hsz hlw hform R hws h
    go_enter Tryz.func23, Tryz.ntmps23
    go_wp2_with fail
    go_ret2
    exact ⟨_, rfl, Below.refl _ _, fun ns e => by cases e⟩
  case pos =>
  have hr : readB fl ws = readZ (fl.zip ws) := if_pos hlen
  have ne : ((form.size : Int) != (len : Int)) = false := by rw [hsz, ← hlw, hlen]; simp
  rw [hr]
  have HR := Lib.hid R
  have HL := Lib.hid h
  have HWS := Lib.hid hws
  have HZ := Lib.hid (show (fl.zip ws).length = len by rw [List.length_zip, hlen, Nat.min_self, hlw])
  have HFL := Lib.hid (show fl.length = len by rw [hlen, hlw])
  have hl8 : len ≤ 8 := by omega
  have HIX := Lib.hid (fun (j : Nat) (c : UInt8) (hc : fl[j]? = some c) => show ∀ wx, (Instr.index 9 (.string form) (.int .i64 (j : Int))).run Tryz.prog wx = .ok (.int .u8 (c.toNat : Int)) wx from fun wx => by
    have hj : j < fl.length := by
      rcases Nat.lt_or_ge j fl.length with q | q
      · exact q
      · rw [List.getElem?_eq_none q] at hc; cases hc
    have hjs : j < form.size := by omega
    rw [run_index_string _ _ _ _ _ Tryz.underlying9, dif_pos (by omega)]
    have : form[(j : Int).toNat]'(by simpa using hjs) = c := by
      subst hform
      rw [List.getElem?_eq_getElem hj] at hc
      simpa [bstr, ByteArray.getElem_eq_getElem_data] using hc
    rw [this])
  clear hr hlen R h hws hsz hlw hform
  go_enter Tryz.func23, Tryz.ntmps23
  go_wp2_with fail
  go_loopg [17, 4] len (fun g i out wr => ∃ (j : Nat) (r : List Int), g + j = len ∧ i = .int .i64 j ∧ readZ ((fl.zip ws).take j) = some r ∧ r.length = j ∧ wr.ownsRow w.heap.size 3 1 out j (r.map (Value.int .i64)) ∧ Below w.heap.size w wr)
  case atStart => exact ⟨0, [], rfl, rfl, rfl, rfl, World.ownsRow_nil _ _ _ _, Below.refl _ _⟩
  case round =>
    obtain ⟨j, r, hg, rfl, hz, hrl, ho, hb⟩ := hrel
    have HG := Lib.hid hg; have HZR := Lib.hid hz; have HRL := Lib.hid hrl; have HO := Lib.hid ho; have HB := Lib.hid hb
    clear hg hz hrl ho hb
    by_cases hlt : j < len
    · obtain ⟨s, hs⟩ : ∃ s, ws[j]? = some s := ⟨_, List.getElem?_eq_getElem (by rw [HR.out.size]; exact hlt)⟩
      obtain ⟨c, hc⟩ : ∃ c, fl[j]? = some c := ⟨_, List.getElem?_eq_getElem (by have := HFL.out; omega)⟩
      obtain ⟨b, off, rfl, hbl, hcs⟩ := (HR.out.below HB.out).cells j s hs
      have c0 := hcs 0 (by decide)
      simp only [strE, List.getElem?_cons_zero, Nat.add_zero, Nat.mul_one] at c0
      have hidx := HIX.out j c hc
      have hzz : (fl.zip ws)[j]? = some (c, s) := by rw [List.getElem?_zip_eq_some]; exact ⟨hc, hs⟩
      have hst : readZ ((fl.zip ws).take (j + 1)) = match formNum c s with | some v => some (r ++ [v]) | none => none := by
        rw [List.take_add_one, hzz]
        show readZ ((fl.zip ws).take j ++ [(c, s)]) = _
        rw [readZ_snoc, HZR.out]
        cases formNum c s <;> rfl
      have HST := Lib.hid hst
      have HN := Lib.hid (scr_number A s (HWS.out s (List.mem_of_getElem? hs)) wr (HL.out.below HB.out))
      clear hst hzz hcs hs hc
      cases hnum : numOf s with
      | none =>
        have hnone : readZ (fl.zip ws) = none := readZ_prefix _ (j + 1) (by rw [HST.out]; unfold formNum; rw [hnum])
        rw [hnum] at HN
        have HNO := Lib.hid hnone
        clear hnone hidx hnum
        simp only [Option.isSome_none] at HN
        generalize numV s = nv at *
        go_wp2_with fail
        refine HN.out.mono ?_
        rintro e w2 ⟨rfl, b2⟩
        have HB2 := Lib.hid (btrans HB.out b2); clear b2
        go_wp2_with fail
        go_ret2
        exact ⟨_, by rw [HNO.out]; rfl, HB2.out, fun ns e => by rw [HNO.out] at e; cases e⟩
      | some v =>
        have hv : numV s = v := numOf_some hnum
        rw [hnum, hv] at HN
        simp only [Option.isSome_some] at HN
        have h100 : ((c.toNat : Int) == 100) = decide (c = 100) := by
          rw [Bool.eq_iff_iff]; simp only [beq_iff_eq, decide_eq_true_eq]
          constructor
          · intro e; exact UInt8.toNat_inj.1 (by rw [show c.toNat = 100 by omega]; rfl)
          · intro e; subst e; rfl
        generalize hci : (c.toNat : Int) = ci at *
        have hfn : formNum c s = if c = 100 ∧ 9 < v then none else some v := by unfold formNum; rw [hnum]
        rw [hfn] at HST
        clear hfn hnum hv hci
        by_cases hc1 : c = 100
        · rw [decide_eq_true hc1] at h100
          by_cases hv9 : 9 < v
          · have d9 : decide (9 < v) = true := decide_eq_true hv9
            have hnone : readZ (fl.zip ws) = none := readZ_prefix _ (j + 1) (by rw [HST.out, if_pos ⟨hc1, hv9⟩])
            have HNO := Lib.hid hnone
            clear hnone hc1 HST hv9
            go_wp2_with fail
            refine HN.out.mono ?_
            rintro e w2 ⟨rfl, b2⟩
            have HB2 := Lib.hid (btrans HB.out b2); clear b2
            go_wp2_with fail
            go_ret2
            exact ⟨_, by rw [HNO.out]; rfl, HB2.out, fun ns e => by rw [HNO.out] at e; cases e⟩
          · have d9 : decide (9 < v) = false := decide_eq_false hv9
            rw [if_neg (fun e => hv9 e.2)] at HST
            clear hc1 hv9
            go_wp2_with fail
            refine HN.out.mono ?_
            rintro e w2 ⟨rfl, b2⟩
            have HB2 := Lib.hid (btrans HB.out b2)
            have HO2 := Lib.hid (ownsRow_other HO.out (fun g hg => b2.block g (HO.out.lt g hg).2) (w' := w2))
            clear b2
            go_wp2_with (at_builtin; refine wpList_append_lies _ rfl (.tmp 39) (.tmp 41) 58 rfl w.heap.size 3 i0 (.int .i64 0) 1 8 Tryz.underlying58 hi hz0 hz1 hz2 rfl (by decide) u4 j (r.map (Value.int .i64)) rfl (HO2.out.alloc _) ⟨_, 0, none⟩ 1 1 [.int .i64 v] rfl rfl (cell_one_at _ _ _ _ (by simp)) (ints_oneCell _ [_]) (by decide) (by unfold maxLen; omega) (by omega) (by have := HB2.out.size; simp; omega) _ rfl ?_)
            intro g cp w4 ho2 hg2 hor hgl
            have HO4 := Lib.hid ho2
            have HB4 := Lib.hid ((HB2.out.alloc HB2.out.size _).grown hg2 (by have := HB2.out.size; simp; omega) (fun k hk => (HO2.out.lt k hk).1))
            clear ho2 hg2 hor hgl
            go_wp2_with fail
            have hg := HG.out
            go_roundg (len - (j + 1))
            case measure => omega
            case rel => exact ⟨j + 1, r ++ [v], by omega, by go_num, HST.out, by rw [List.length_append, HRL.out]; rfl, by rw [List.map_append]; exact HO4.out, HB4.out⟩
        · rw [decide_eq_false hc1] at h100
          rw [if_neg (fun e => hc1 e.1)] at HST
          clear hc1
          go_wp2_with fail
          refine HN.out.mono ?_
          rintro e w2 ⟨rfl, b2⟩
          have HB2 := Lib.hid (btrans HB.out b2)
          have HO2 := Lib.hid (ownsRow_other HO.out (fun g hg => b2.block g (HO.out.lt g hg).2) (w' := w2))
          clear b2
          go_wp2_with (at_builtin; refine wpList_append_lies _ rfl (.tmp 39) (.tmp 41) 58 rfl w.heap.size 3 i0 (.int .i64 0) 1 8 Tryz.underlying58 hi hz0 hz1 hz2 rfl (by decide) u4 j (r.map (Value.int .i64)) rfl (HO2.out.alloc _) ⟨_, 0, none⟩ 1 1 [.int .i64 v] rfl rfl (cell_one_at _ _ _ _ (by simp)) (ints_oneCell _ [_]) (by decide) (by unfold maxLen; omega) (by omega) (by have := HB2.out.size; simp; omega) _ rfl ?_)
          intro g cp w4 ho2 hg2 hor hgl
          have HO4 := Lib.hid ho2
          have HB4 := Lib.hid ((HB2.out.alloc HB2.out.size _).grown hg2 (by have := HB2.out.size; simp; omega) (fun k hk => (HO2.out.lt k hk).1))
          clear ho2 hg2 hor hgl
          go_wp2_with fail
          have hg := HG.out
          go_roundg (len - (j + 1))
          case measure => omega
          case rel => exact ⟨j + 1, r ++ [v], by omega, by go_num, HST.out, by rw [List.length_append, HRL.out]; rfl, by rw [List.map_append]; exact HO4.out, HB4.out⟩
    · have hjl : j = len := by have := HG.out; omega
      subst hjl
      have hz := HZR.out
      rw [List.take_of_length_le (by have := HZ.out; omega)] at hz
      have HZ2 := Lib.hid hz
      clear hz
      go_wp2_with fail
      go_ret2
      exact ⟨_, by rw [HZ2.out]; rfl, HB.out, fun ns e => by rw [HZ2.out] at e; cases e; have := HO.out; rw [HRL.out]; exact this⟩
end Go.Proofs.YtajnfkmkombajabGreatDoor
namespace Go.Proofs.YtajnfkmkombajabGreatDoor
open Go

def splitSp : List UInt8 → List (List UInt8)
  | [] => [[]]
  | b :: l => if b = 32 then [] :: splitSp l else match splitSp l with
    | h :: t => (b :: h) :: t
    | [] => [[b]]
theorem splitSp_ne (l : List UInt8) : splitSp l ≠ [] := by
  cases l with
  | nil => simp [splitSp]
  | cons b l =>
    unfold splitSp
    split
    · simp
    · split <;> simp
theorem index_cons_other (b : UInt8) (l : List UInt8) (h : b ≠ 32) : Lib.index (b :: l) [32] = if Lib.index l [32] == -1 then -1 else Lib.index l [32] + 1 := by
  conv => lhs; unfold Lib.index
  rw [if_neg]
  simp [List.isPrefixOf, Ne.symm h]
theorem splitK_sp : ∀ (l : List UInt8), Lib.splitK [32] 0 (Lib.count l [32]) l = splitSp l
  | [] => rfl
  | b :: l => by
    have ih := splitK_sp l
    by_cases hb : b = 32
    · subst hb
      rw [Lib.count_cons_eq, Nat.add_comm 1]
      have hi : Lib.index (32 :: l) [32] = 0 := by unfold Lib.index; rw [if_pos (by simp [List.isPrefixOf])]
      unfold Lib.splitK
      rw [hi]
      simp only [splitSp, if_true]
      rw [if_neg (by decide)]
      simp [ih]
    · rw [Lib.count_cons_ne b 32 l hb]
      unfold splitSp
      rw [if_neg hb, ← ih]
      have hic := index_cons_other b l hb
      rcases Lib.index_spec l [32] with ⟨h1, -⟩ | ⟨i, h1, h2, -, -⟩
      · rw [Lib.count_miss h1]
        simp [Lib.splitK]
      · rw [Lib.count_hit (by simp) h1, Nat.add_comm 1]
        have hn : ¬ ((i : Int) == -1) = true := by simp
        have hn2 : ¬ ((i : Int) + 1 == -1) = true := by
          intro e; have := eq_of_beq e; omega
        rw [h1, if_neg hn] at hic
        unfold Lib.splitK
        rw [h1, hic, if_neg hn, if_neg hn2]
        have e1 : ((i : Int) + 1).toNat = i + 1 := by omega
        have e2 : (i : Int).toNat = i := by omega
        rw [e1, e2]
        have e3 : i + 1 + 0 = (i + 0) + 1 := by omega
        rw [e3, List.take_succ_cons]
        have e4 : i + 1 + [(32 : UInt8)].length = (i + [(32 : UInt8)].length) + 1 := by simp
        rw [e4, List.drop_succ_cons]
        rfl
/-- a byte string cut at its spaces -/
theorem splitB_sp (s : ByteArray) : (Lib.splitB ⟨#[32]⟩ 0 (Lib.countB s ⟨#[32]⟩) s).map (·.data.toList) = splitSp s.data.toList := by
  rw [Lib.splitB_data]; exact splitK_sp _
theorem splitSp_word : ∀ (w : List UInt8), (32 : UInt8) ∉ w → splitSp w = [w]
  | [], _ => rfl
  | b :: w, h => by
    have hb : b ≠ 32 := fun e => h (by rw [e]; simp)
    unfold splitSp
    rw [if_neg hb, splitSp_word w (fun e => h (List.mem_cons_of_mem _ e))]
theorem splitSp_more : ∀ (w r : List UInt8), (32 : UInt8) ∉ w → splitSp (w ++ 32 :: r) = w :: splitSp r
  | [], r, _ => by simp [splitSp]
  | b :: w, r, h => by
    have hb : b ≠ 32 := fun e => h (by rw [e]; simp)
    show splitSp (b :: (w ++ 32 :: r)) = _
    conv => lhs; unfold splitSp
    rw [if_neg hb, splitSp_more w r (fun e => h (List.mem_cons_of_mem _ e))]
theorem splitSp_head : ∀ (l : List UInt8), (splitSp l).headD [] = l.takeWhile (· != 32)
  | [] => rfl
  | b :: l => by
    have ih := splitSp_head l
    unfold splitSp
    by_cases hb : b = 32
    · subst hb; simp
    · rw [if_neg hb]
      cases hs : splitSp l with
      | nil => exact absurd hs (splitSp_ne l)
      | cons h t =>
        rw [hs] at ih
        simp only [List.headD_cons] at ih ⊢
        rw [List.takeWhile_cons, if_pos (by simpa using hb), ih]
/-- what joins words with spaces -/
def joinSp : List (List UInt8) → List UInt8
  | [] => []
  | [w] => w
  | w :: x :: l => w ++ 32 :: joinSp (x :: l)
theorem splitSp_join : ∀ (l : List (List UInt8)), l ≠ [] → (∀ w ∈ l, (32 : UInt8) ∉ w) → splitSp (joinSp l) = l
  | [], h, _ => absurd rfl h
  | [w], _, h => splitSp_word w (h w (by simp))
  | w :: x :: l, _, h => by
    show splitSp (w ++ 32 :: joinSp (x :: l)) = _
    rw [splitSp_more w _ (h w (by simp)), splitSp_join (x :: l) (by simp) (fun y hy => h y (List.mem_cons_of_mem _ hy))]
theorem joinSp_snoc : ∀ (l : List (List UInt8)) (w : List UInt8), l ≠ [] → joinSp (l ++ [w]) = joinSp l ++ 32 :: w
  | [], _, h => absurd rfl h
  | [x], w, _ => rfl
  | x :: y :: l, w, _ => by
    show x ++ 32 :: joinSp ((y :: l) ++ [w]) = (x ++ 32 :: joinSp (y :: l)) ++ 32 :: w
    rw [joinSp_snoc (y :: l) w (by simp)]
    simp
end Go.Proofs.YtajnfkmkombajabGreatDoor
namespace Go.Proofs.YtajnfkmkombajabGreatDoor
open Go Go.RowKit Go.Maps Go.ChangeMaps

set_option maxRecDepth 8000 in
theorem RdR.str_lo {w : World} {ao : Option Addr} {len cap : Nat} {l : List ByteArray} (R : RdR strE 1 w ao len cap l) (k : Nat) (hk : k ≤ len) (kl : IntKind) :
    ∃ a', (∀ wx : World, (Instr.slice 23 (.slice ao len cap) (some (.int kl k)) none none).run Tryz.prog wx = .ok (.slice a' (len - k) (cap - k)) wx) ∧ RdR strE 1 w a' (len - k) (cap - k) (l.drop k) ∧ ∀ a, a' = some a → ∀ b, ao = some b → a.block = b.block := by
  have hc := R.lc
  have hm := R.cm
  have hsz : ∀ wx : World, (sizeOf (Tryz.prog.elem 23)).run Tryz.prog wx = .ok 1 wx := fun wx => by kernel_rfl
  refine ⟨if cap = k then ao else ao.map (·.add (k * 1)), fun wx => ?_, ⟨by rw [List.length_drop, R.size], by omega, by omega, fun h => ?_, fun i x hi => ?_⟩, fun a ha b hb => ?_⟩
  · rw [run_slice_l wx 23 ao len cap Tryz.underlying23 kl k (by omega) (by omega), hsz]
    simp only [Result.andThen, sliced, Int.toNat_natCast]
  · split at h
    · have := R.nul h; omega
    · cases ao with
      | none => have := R.nul rfl; omega
      | some x => cases h
  · rw [List.getElem?_drop] at hi
    have hlt : k + i < l.length := by
      rcases Nat.lt_or_ge (k + i) l.length with q | q
      · exact q
      · rw [List.getElem?_eq_none q] at hi; cases hi
    have hsz := R.size
    obtain ⟨b, off, ha, hb, hcl⟩ := R.cells (k + i) x hi
    refine ⟨b, off + k, ?_, hb, fun j hj => ?_⟩
    · rw [if_neg (by omega), ha]
      simp only [Option.map_some, Nat.mul_one, Addr.add]
      split
      · simp_all
      · rfl
    · rw [← hcl j hj]; congr 2; omega
  · split at ha
    · rw [hb] at ha; cases ha; rfl
    · rw [hb] at ha
      simp only [Option.map_some, Option.some.injEq] at ha
      rw [← ha]
      unfold Addr.add; split <;> rfl

/-- a new row of strings -/
theorem RdR.str_new (w : World) (t : TypeId) (l : List ByteArray) (hm : l.length ≤ maxLen) : RdR strE 1 (w.alloc (.cells (l.map Value.string).toArray t)) (some ⟨w.heap.size, 0, none⟩) l.length l.length l :=
  ⟨rfl, Nat.le_refl _, hm, (fun h => by cases h), fun i x hi => ⟨w.heap.size, 0, rfl, by simp, fun j hj => by
    obtain rfl : j = 0 := by omega
    unfold World.cell?
    rw [heap_alloc_new]
    simp [strE, hi]⟩⟩

theorem split_len (s : ByteArray) : (splitL s).length = Lib.countB s spB + 1 := by
  unfold splitL
  exact Lib.splitB_all spB (by decide) 0 _ s rfl
theorem cmdOf_some {l : List UInt8} {i : Nat} (h : cmdOf l = some i) : i < 15 ∧ cmdWord i = l := by
  unfold cmdOf at h
  obtain ⟨hi, hp, -⟩ := List.findIdx?_eq_some_iff_getElem.1 h
  refine ⟨hi, ?_⟩
  unfold cmdWord
  rw [List.getD_eq_getElem?_getD, List.getElem?_eq_getElem hi]
  simpa using hp
theorem cmdOf_none {l : List UInt8} (h : cmdOf l = none) : ∀ j, j < 15 → l ≠ cmdWord j := by
  intro j hj e
  unfold cmdOf at h
  rw [List.findIdx?_eq_none_iff] at h
  have hj' : j < cmdWords.length := hj
  have := h (cmdWords[j]'hj') (List.getElem_mem hj')
  rw [beq_eq_false_iff_ne] at this
  apply this
  rw [e]; unfold cmdWord
  rw [List.getD_eq_getElem?_getD, List.getElem?_eq_getElem hj']; rfl
theorem bstr_data (k : ByteArray) : bstr k.data.toList = k := by simp [bstr]

theorem CmdsAt.hit {W w : World} {g i : Nat} {k : ByteArray} (h : CmdsAt W g 15 w) (hk : cmdOf k.data.toList = some i) :
    i < 15 ∧ ∃ fv, CmdFv w i fv ∧ ∀ w' : World, w'.heap[g]? = w.heap[g]? → (Instr.lookup 65 (.map (some g)) (.string k) true).run Tryz.prog w' = .ok (.tuple #[.agg #[.string (bstr (cmdForm i)), fv], .bool true]) w' := by
  obtain ⟨hi, hw⟩ := cmdOf_some hk
  obtain ⟨es, clock, h1, h2, h3, h4⟩ := h.map
  obtain ⟨v, a1, fv, a2, a3⟩ := h3 i hi
  rw [hw, bstr_data] at a1
  refine ⟨hi, fv, a3, fun w' hw' => ?_⟩
  have hz : (zeroValue 63).run Tryz.prog w' = .ok (.agg #[.string ⟨#[]⟩, .nilFunc]) w' := by kernel_rfl
  rw [run_lookup_str Tryz.underlying65 Tryz.underlying9 (hw'.trans h1) h2 hz k, a1, a2]
  rfl
theorem CmdsAt.miss {W w : World} {g : Nat} {k : ByteArray} (h : CmdsAt W g 15 w) (hk : cmdOf k.data.toList = none) :
    ∀ w' : World, w'.heap[g]? = w.heap[g]? → (Instr.lookup 65 (.map (some g)) (.string k) true).run Tryz.prog w' = .ok (.tuple #[.agg #[.string ⟨#[]⟩, .nilFunc], .bool false]) w' := by
  obtain ⟨es, clock, h1, h2, h3, h4⟩ := h.map
  have a1 := h4 k (fun j hj e => cmdOf_none hk j hj (by have := congrArg (fun x : ByteArray => x.data.toList) e; simpa [bstr] using this))
  intro w' hw'
  have hz : (zeroValue 63).run Tryz.prog w' = .ok (.agg #[.string ⟨#[]⟩, .nilFunc]) w' := by kernel_rfl
  rw [run_lookup_str Tryz.underlying65 Tryz.underlying9 (hw'.trans h1) h2 hz k, a1]
  rfl
end Go.Proofs.YtajnfkmkombajabGreatDoor
