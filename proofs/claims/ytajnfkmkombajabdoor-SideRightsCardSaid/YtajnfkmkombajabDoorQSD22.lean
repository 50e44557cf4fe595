/-
  side.all: the farm and its law.
  side.all: from goroutine 0 at its call, alone or beside leavers, to its return.
  Small words used in all walks: a slice that reads as numbers; what is kept below the heap's size. No program in sight.
  The sentinels of package api: what an error's number is as a value, and that the listed ones lie where the program's text lays them.
  From a row's cell on listed sentinels to what the walks ask: the errors' variables hold them.
  A lone world out of one in company: what is shared is frozen there; what is not known of it is a hole; what is only pointed at has no cell. No program in sight.
  A lone contract, from the middle of a function or from a call, used by a goroutine in company: on into the caller's frame. No program in sight.
-/
import Derived.Test.YtajnfkmkombajabDoorQSD21
import Derived.Conc.Token
import Derived.WalkKit
import Derived.ProofKit
import Derived.WalkSmall
import Derived.Lib.Hide
import Derived.Maps.AppendAt
import Derived.Deep.AppendLies
import Derived.Deep.RegionWith
import Derived.Test.YtajnfkmkombajabDoorProg
import Derived.LaidLaws
import Derived.Stop.LaidErr
import Derived.KernelRfl
import Derived.Test.YtajnfkmkombajabDoorQSD15
set_option linter.unusedVariables false
set_option linter.unusedSimpArgs false
namespace Go.Proofs.YtajnfkmkombajabDoor
open Go Go.Conc Go.ConcN Go.RowKit Go.Conc.Lib Go.ConcR.Gen Go.ConcN.Gen
open Go.ConcR (KK wgBlock WgAt stA smA)
structure Kin (F F' : Farm Tryd.prog) : Prop where
 ty : F.ty = F'.ty
 wg : F.Wg = F'.Wg
 td : F.Td = F'.Td
 bk : F.Bk = F'.Bk
 many : F.many = F'.many
 priv : F.priv = F'.priv
section
variable {F F' : Farm Tryd.prog} {b8 b9 Bh bx : Nat} {fh : FuncId} {hc : Array Value} {Res : Nat → Value → Value → World → (Nat → Prop) → Prop} {S0 : Nat → Prop} {K J : World → Prop} {S M : Nat → Prop} {W : World}
theorem Kin.symm (k : Kin F F') : Kin F' F := ⟨k.ty.symm, k.wg.symm, k.td.symm, k.bk.symm, k.many.symm, k.priv.symm⟩
theorem Kin.inv (k : Kin F F') : F.I = F'.I := by
 funext W
 unfold Farm.I
 rw [k.ty, k.wg, k.td, k.bk]
theorem Kin.pub (k : Kin F F') : F.pub S M = F'.pub S M := by
 funext b
 unfold Farm.pub
 rw [k.priv]
theorem Kin.job (k : Kin F F') (h : Job F fh hc Res S W) : Job F' fh hc Res S W := by
 intro i hi C Cs Stop hk
 have := h i (by rw [k.many]; exact hi) C Cs Stop
 unfold Farm.Go at *
 rw [k.inv] at this
 exact this hk
theorem Kin.wf (k : Kin F F') (h : WF F b8 b9 Bh bx fh hc Res S W) : WF F' b8 b9 Bh bx fh hc Res S W :=
 let ⟨W0, h0, r⟩ := h
 ⟨W0, ⟨h0.s8, h0.s9, h0.sh, h0.sx, k.td ▸ h0.c8, k.bk ▸ h0.c9, h0.ch, k.wg ▸ h0.cx, k.job h0.job, h0.stays⟩, r⟩
theorem Kin.head (k : Kin F F') {g : Goroutine} (h : HeadA F b8 b9 Bh fh hc Res S g W M) : HeadA F' b8 b9 Bh fh hc Res S g W M := by
 obtain ⟨h0, bx, TG, T, hw, h1, h2, h3, h4, h5, h6, h7⟩ := h
 exact ⟨h0, bx, TG, T, k.wf hw, h1, h2, h3, h4, h5, k.td ▸ h6, h7⟩
theorem Kin.back (k : Kin F F') {i : Nat} {v : Value} {g : Goroutine} (h : BackA F b8 b9 Bh fh hc Res S i v g W M) : BackA F' b8 b9 Bh fh hc Res S i v g W M := by
 obtain ⟨hd, bx, TG, T, hw, h1, h2, h3, h4, h5, h6, h7, h8, h9⟩ := h
 exact ⟨hd, bx, TG, T, k.wf hw, h1, h2, h3, h4, h5, k.td ▸ h6, k.bk ▸ h7, h8, h9⟩
theorem Kin.cf (k : Kin F F') (h : Cf F b8 b9 Bh fh hc S0 K J S M W) : Cf F' b8 b9 Bh fh hc S0 K J S M W :=
 ⟨k.wg ▸ h.nW, k.td ▸ h.nT, k.pub ▸ h.m8, k.pub ▸ h.m9, k.pub ▸ h.mh, k.td ▸ h.c8, k.bk ▸ h.c9, h.ch, k.priv ▸ h.prl, k.priv ▸ h.prm, fun b q => k.pub ▸ h.s0 b q, h.k, h.j⟩
theorem Kin.lf (k : Kin F F') {Bo Be n : Nat} {got : Nat → Prop} (h : Lf F b8 b9 Bh fh hc Res S0 K J Bo Be n got S M W) : Lf F' b8 b9 Bh fh hc Res S0 K J Bo Be n got S M W :=
 ⟨k.cf h.cf, h.mo, h.me, h.ne, h.lo, h.le, k.priv ▸ h.po, h.so, h.rows⟩
theorem Kin.sel (k : Kin F F') {Bo Be n nx rd : Nat} {cs : List Frame} {got : Nat → Prop} {g : Goroutine} (h : SelA F b8 b9 Bh fh hc Res S0 K J Bo Be n cs S nx rd got g W M) : SelA F' b8 b9 Bh fh hc Res S0 K J Bo Be n cs S nx rd got g W M := by
 obtain ⟨h1, h2, h3, T, h4, ⟨s0, s6, s7, s8, s9, s10, s11, s12, s34, s35, s36⟩, h6⟩ := h
 exact ⟨k.lf h1, h2, h3, T, h4, ⟨s0, s6, s7, s8, s9, k.wg ▸ s10, s11, s12, k.td ▸ s34, s35, k.bk ▸ s36⟩, h6⟩
theorem Kin.ret (k : Kin F F') {n : Nat} {b₀ : Frame} {a₀ : Act} {ops₀ : Array Oper} {i₀ : Nat} {rest₀ : List Nat} {k₀ : List Item} {cs : List Frame} {g : Goroutine} (h : RetA F b8 b9 Bh fh hc Res S0 K J n b₀ a₀ ops₀ i₀ rest₀ k₀ cs S g W M) : RetA F' b8 b9 Bh fh hc Res S0 K J n b₀ a₀ ops₀ i₀ rest₀ k₀ cs S g W M := by
 obtain ⟨Bo, Be, h1, h2⟩ := h
 exact ⟨Bo, Be, h1, k.lf h2⟩
theorem Kin.anch (k : Kin F F') (hR : F.Ret = F'.Ret) {g : Goroutine} (h : AnchW Tryd.prog wgL F S g W M) : AnchW Tryd.prog wgL F' S g W M := by
 obtain ⟨T, b₀, a₀, ops₀, i₀, rest₀, k₀, cs, h1, h2, h3, h4, h5⟩ := h
 refine ⟨T, b₀, a₀, ops₀, i₀, rest₀, k₀, cs, h1, h2, k.wg ▸ h3, k.wg ▸ h4, ?_⟩
 unfold Farm.Go at *
 rw [← k.inv, ← hR]
 exact h5
end
def zbA : Value := .agg #[.int .i64 0, .slice none 0 0, .nilIface]
def F1A (Wg Td Bk n : Nat) (priv : Nat → Prop) : Farm Tryd.prog where
 ty := 198
 Wg := Wg
 Td := Td
 Bk := Bk
 z := .int .i64 0
 zb := zbA
 zs := .int .i64 0
 zc := .tuple #[]
 many := n
 selC := fun nx => if nx < n then #[scase Td (.int .i64 nx) (.int .i64 0), rcase Bk zbA] else #[{ chan := .chan none, send := some (.int .i64 nx), zero := .int .i64 0 }, rcase Bk zbA]
 priv := priv
 Head := fun _ _ _ _ => False
 Back := fun _ _ _ _ _ _ => False
 Deliv := fun _ _ _ _ _ => False
 Sel := fun _ _ _ _ _ _ _ => False
 Anch := fun _ _ _ _ => False
 Ret := fun _ _ _ _ => False
def F2A (fh : FuncId) (hc : Array Value) (Res : Nat → Value → Value → World → (Nat → Prop) → Prop) (S0 priv : Nat → Prop) (K J : World → Prop) (n : Nat) (b₀ : Frame) (a₀ : Act) (ops₀ : Array Oper) (i₀ : Nat) (rest₀ : List Nat) (k₀ : List Item) (cs : List Frame) (Wg Td Bk b8 b9 Bh : Nat) : Farm Tryd.prog :=
 { F1A Wg Td Bk n priv with Ret := RetA (F1A Wg Td Bk n priv) b8 b9 Bh fh hc Res S0 K J n b₀ a₀ ops₀ i₀ rest₀ k₀ cs }
def mkA (fh : FuncId) (hc : Array Value) (Res : Nat → Value → Value → World → (Nat → Prop) → Prop) (S0 priv : Nat → Prop) (K J : World → Prop) (n : Nat) (b₀ : Frame) (a₀ : Act) (ops₀ : Array Oper) (i₀ : Nat) (rest₀ : List Nat) (k₀ : List Item) (cs : List Frame) (Wg Td Bk b8 b9 Bh : Nat) : Farm Tryd.prog :=
 { F2A fh hc Res S0 priv K J n b₀ a₀ ops₀ i₀ rest₀ k₀ cs Wg Td Bk b8 b9 Bh with
   Head := HeadA (F1A Wg Td Bk n priv) b8 b9 Bh fh hc Res
   Back := BackA (F1A Wg Td Bk n priv) b8 b9 Bh fh hc Res
   Deliv := DelivA Res
   Sel := fun S nx rd got g W M => ∃ Bo Be, SelA (F1A Wg Td Bk n priv) b8 b9 Bh fh hc Res S0 K J Bo Be n (b₀.at a₀ (.inRegion ops₀ (i₀ :: rest₀) :: k₀) :: cs) S nx rd got g W M
   Anch := AnchW Tryd.prog wgL (F2A fh hc Res S0 priv K J n b₀ a₀ ops₀ i₀ rest₀ k₀ cs Wg Td Bk b8 b9 Bh) }
section
variable {fh : FuncId} {hc : Array Value} {Res : Nat → Value → Value → World → (Nat → Prop) → Prop} {S0 priv : Nat → Prop} {K J : World → Prop} {n : Nat} {b₀ : Frame} {a₀ : Act} {ops₀ : Array Oper} {i₀ : Nat} {rest₀ : List Nat} {k₀ : List Item} {cs : List Frame} {Wg Td Bk b8 b9 Bh : Nat}
theorem kin1 : Kin (F1A Wg Td Bk n priv) (mkA fh hc Res S0 priv K J n b₀ a₀ ops₀ i₀ rest₀ k₀ cs Wg Td Bk b8 b9 Bh) := ⟨rfl, rfl, rfl, rfl, rfl, rfl⟩
theorem kin2 : Kin (F2A fh hc Res S0 priv K J n b₀ a₀ ops₀ i₀ rest₀ k₀ cs Wg Td Bk b8 b9 Bh) (mkA fh hc Res S0 priv K J n b₀ a₀ ops₀ i₀ rest₀ k₀ cs Wg Td Bk b8 b9 Bh) := ⟨rfl, rfl, rfl, rfl, rfl, rfl⟩
theorem selLawA : SelLaw (mkA fh hc Res S0 priv K J n b₀ a₀ ops₀ i₀ rest₀ k₀ cs Wg Td Bk b8 b9 Bh) := ⟨rfl, rfl, fun _ => rfl⟩
theorem farmA (L : CfLaw (mkA fh hc Res S0 priv K J n b₀ a₀ ops₀ i₀ rest₀ k₀ cs Wg Td Bk b8 b9 Bh) fh hc Res S0 K J) (hkS : ∀ W b, K W → S0 b → b < W.heap.size) :
   FarmA (mkA fh hc Res S0 priv K J n b₀ a₀ ops₀ i₀ rest₀ k₀ cs Wg Td Bk b8 b9 Bh) Wg Td Bk b8 b9 Bh fh hc Res S0 priv K J n b₀ a₀ ops₀ i₀ rest₀ k₀ cs :=
 ⟨rfl, rfl, rfl, rfl, rfl, L, hkS, selLawA, fun S g W M h => kin1.symm.head h, fun Bo Be S nx rd got g W M h => ⟨Bo, Be, kin1.symm.sel h⟩, fun S g w M h => kin2.symm.anch rfl h, fun S g W M h => kin1.symm.ret h⟩
set_option maxHeartbeats 1000000 in
theorem lawA (L : CfLaw (mkA fh hc Res S0 priv K J n b₀ a₀ ops₀ i₀ rest₀ k₀ cs Wg Td Bk b8 b9 Bh) fh hc Res S0 K J) (hkS : ∀ W b, K W → S0 b → b < W.heap.size) (hne : Wg ≠ Td ∧ Wg ≠ Bk ∧ Td ≠ Bk) (hn : n < 9223372036854775807)
   (hfh : ∃ fn c, Tryd.prog.funcs[fh]? = some fn ∧ (fn.name == "runtime.NumGoroutine") = false ∧ fn.body = some c) : (mkA fh hc Res S0 priv K J n b₀ a₀ ops₀ i₀ rest₀ k₀ cs Wg Td Bk b8 b9 Bh).Law := by
 have FA := farmA L hkS
 exact {
   blocks := hne
   head_run := fun S g W M h => headA_run h
   head_rely := fun S g W W1 M h r _ => headA_rely h r
   head_comm := fun S g W M h _ => headA_comm (kin1.head h)
   head_take := fun S g W M i h _ hi => headA_take (fun S i v g W M q => kin1.symm.back q) hfh (kin1.head h) hi
   head_end := fun S g W M h hI => headA_end rfl (kin1.head h) hI
   back_run := fun S i v g W M h => backA_run h
   back_rely := fun S i v g W W1 M h r _ => backA_rely h r
   back_comm := fun S i v g W M h _ => backA_comm (kin1.back h)
   back_done := fun S i v g W M h _ => backA_done FA.head (kin1.back h)
   sel_cases := fun nx => rfl
   sel_run := fun S nx rd got g W M ⟨_, _, h⟩ => selA_run h
   sel_rely := fun S nx rd got g W W1 M ⟨Bo, Be, h⟩ r _ => ⟨Bo, Be, kin1.symm.sel (selA_rely L (kin1.sel h) r)⟩
   sel_comm := fun S nx rd got g W M ⟨_, _, h⟩ _ => selA_comm selLawA rfl (kin1.sel h)
   sel_give := fun S nx rd got g W M ⟨Bo, Be, h⟩ _ hx _ => selA_give L selLawA hn (FA.atSel Bo Be) rfl (fun T W1 M hT hs hl => closeA L FA.anch FA.ret T hT hs hl) (kin1.sel h) hx
   sel_get := fun S nx rd got g W M i v S' M' ⟨Bo, Be, h⟩ _ _ hi hd _ hm hall => selA_get (S' := S') L selLawA hn (FA.atSel Bo Be) rfl (fun T W1 M hT hs hl => closeA L FA.anch FA.ret T hT hs hl) (kin1.sel h) hi hd hm hall
   anch := fun S g W M h _ => waitRoundW wgLib rfl (FA.anch S) g W (kin2.anch rfl h)
   anch_run := fun S g W M h => by
     obtain ⟨T, b₀, a₀, ops₀, i₀, rest₀, k₀, cs, rfl, -⟩ := h
     rfl }
end
end Go.Proofs.YtajnfkmkombajabDoor
namespace Go.Proofs.YtajnfkmkombajabDoor
open Go Go.Conc Go.ConcN
open Go.ConcR (KK wgBlock WgAt stA smA)
theorem onsp_I1 {Sp : Nat → Prop} {I : World → Prop} {B : Nat} (h : OnSp Sp I) : OnSp (fun b => Sp b ∨ b = B) (I1 I B) := fun w w' hk q => ⟨h w w' (fun b hb => hk b (.inl hb)) q.1, by rw [hk B (.inr rfl)]; exact q.2⟩
def AllDone (mk : Nat → Nat → Nat → Nat → Nat → Nat → Farm Tryd.prog) (j w : Nat) (m : Machine) (t : Trace) : Prop :=
 ∃ (gs : Array Goroutine) (w' : World) (sl : Option (Nat × Nat)) (q : Nat → Nat) (Own Rd : Nat → Nat → Prop) (Sp : Nat → Prop) (a : Goroutine) (Wg Td Bk b8 b9 Bh : Nat), m = crowd gs w' sl ∧ gs[0]? = some a ∧ (mk Wg Td Bk b8 b9 Bh).Ret (Rd 0) a w' (Own 0) ∧ Calm Tryd.prog (j + w) gs w' t q Own Rd Sp ∧ (mk Wg Td Bk b8 b9 Bh).I w'
theorem calm_all {I : World → Prop} {mk : Nat → Nat → Nat → Nat → Nat → Nat → Farm Tryd.prog} {j r : Nat} {gs : Array Goroutine} {w : World} {sl : Option (Nat × Nat)} {t : Trace} {q : Nat → Nat} {Own Rd : Nat → Nat → Prop} {Sp : Nat → Prop} {a : Goroutine}
   (hIk : OnSp Sp I) (hmk : ∀ Wg Td Bk b8 b9 Bh, (mk Wg Td Bk b8 b9 Bh).ty = 198 ∧ (mk Wg Td Bk b8 b9 Bh).Wg = Wg ∧ (mk Wg Td Bk b8 b9 Bh).Td = Td ∧ (mk Wg Td Bk b8 b9 Bh).Bk = Bk)
   (hlaw : ∀ Wg Td Bk b8 b9 Bh, Wg ≠ Td ∧ Wg ≠ Bk ∧ Td ≠ Bk → (mk Wg Td Bk b8 b9 Bh).Law) (hrun : ∀ Wg Td Bk b8 b9 Bh S g w M, (mk Wg Td Bk b8 b9 Bh).Ret S g w M → g.status = .running) (hj : j + r + 1 < 2147483648)
   (ha : gs[0]? = some a) (hI : I w) (hc : Calm Tryd.prog j gs w t q Own Rd Sp) (hg : Stg I (Rd 0) (Stop2 mk (r + 1) (Rd 0)) [] a w (Own 0)) :
   ∃ n m' t', runNT Tryd.prog n (crowd gs w sl) t = (.next m', t') ∧ AllDone mk j (r + 1) m' t' := by
 change GoesW Tryd.prog true I (Rd 0) (AtMake Tryd.prog chO fun B => GoesW Tryd.prog true (I1 I B) (Rd 0) (AtMake Tryd.prog chO fun B' => GoesW Tryd.prog true (I1 (I1 I B) B') (Rd 0) (AtMake Tryd.prog wgO fun Wg g W M => ∃ Td Bk b8 b9 Bh, ((Td = B ∧ Bk = B') ∨ (Td = B' ∧ Bk = B)) ∧ (mk Wg Td Bk b8 b9 Bh).Starts (r + 1) (Rd 0) g W M))) a w (Own 0) at hg
 obtain ⟨μ, inv⟩ := calm_again (sl := sl) ha hI hc hg
 obtain ⟨n1, m1, t1, e1, gs1, w1, sl1, q1, Own1, a1, B1, rfl, ha1, hc1, hI1, hn1, hb1, hg1, hX1⟩ := calm_make hIk inv
 obtain ⟨μ1, inv1⟩ := calm_again (sl := sl1) ha1 (I := I1 I B1) ⟨hI1, hb1⟩ hc1 hg1
 obtain ⟨n2, m2, t2, e2, gs2, w2, sl2, q2, Own2, a2, B2, rfl, ha2, hc2, hI2, hn2, hb2, hg2, hX2⟩ := calm_make (onsp_I1 hIk) inv1
 obtain ⟨μ2, inv2⟩ := calm_again (sl := sl2) ha2 (I := I1 (I1 I B1) B2) ⟨hI2, hb2⟩ hc2 hg2
 obtain ⟨n3, m3, t3, e3, gs3, w3, sl3, q3, Own3, a3, B3, rfl, ha3, hc3, hI3, hn3, hb3, ⟨Td, Bk, b8, b9, Bh, hrel, hst⟩, hX3⟩ := calm_make (onsp_I1 (onsp_I1 hIk)) inv2
 obtain ⟨k1, k2, k3, k4⟩ := hmk B3 Td Bk b8 b9 Bh
 have hne : B1 ≠ B2 ∧ B3 ≠ B1 ∧ B3 ≠ B2 := ⟨fun e => hn2 (.inr e.symm), fun e => hn3 (.inl (.inr e)), fun e => hn3 (.inr e)⟩
 have hT : w3.heap[Td]? = some chO ∧ w3.heap[Bk]? = some chO ∧ (B3 ≠ Td ∧ B3 ≠ Bk ∧ Td ≠ Bk) ∧ (((Sp Td ∨ Td = B1) ∨ Td = B2) ∨ Td = B3) ∧ (((Sp Bk ∨ Bk = B1) ∨ Bk = B2) ∨ Bk = B3) := by
   rcases hrel with ⟨rfl, rfl⟩ | ⟨rfl, rfl⟩
   · exact ⟨hI3.1.2, hI3.2, ⟨hne.2.1, hne.2.2, hne.1⟩, .inl (.inl (.inr rfl)), .inl (.inr rfl)⟩
   · exact ⟨hI3.2, hI3.1.2, ⟨hne.2.2, hne.2.1, hne.1.symm⟩, .inl (.inr rfl), .inl (.inl (.inr rfl))⟩
 obtain ⟨hTd, hBk, hd, hs1, hs2⟩ := hT
 obtain ⟨μ3, inv3⟩ := farm_of_calm (F := mk B3 Td Bk b8 b9 Bh) (sl := sl3) ha3 hc3 ⟨by rw [k2]; exact .inr rfl, by rw [k3]; exact hs1, by rw [k4]; exact hs2⟩ (by unfold WgAt; rw [k1, k2]; exact hb3) (by rw [k3]; exact hTd) (by rw [k4]; exact hBk) hst
 obtain ⟨n4, m4, t4, e4, hdone⟩ := farm_runs (hlaw B3 Td Bk b8 b9 Bh hd) (hrun B3 Td Bk b8 b9 Bh) hj inv3
 obtain ⟨gs5, w5, sl5, q5, Own5, Rd5, Sp5, a5, rfl, ha5, hr5, hc5, hi5⟩ := calm_of_done hdone
 refine ⟨n1 + (n2 + (n3 + n4)), _, t4, ?_, gs5, w5, sl5, q5, Own5, Rd5, Sp5, a5, B3, Td, Bk, b8, b9, Bh, rfl, ha5, hr5, hc5, hi5⟩
 have f3 := runNT_then e3 e4
 have f2 := runNT_then e2 f3
 exact runNT_then e1 f2
end Go.Proofs.YtajnfkmkombajabDoor
namespace Go.Proofs.YtajnfkmkombajabDoor
open Go.RowKit
structure RdI (k : IntKind) (w : World) (ao : Option Addr) (len cap : Nat) (zs : List Int) : Prop where
 size : zs.length = len
 lc : len ≤ cap
 cm : cap ≤ maxLen
 nul : ao = none → cap = 0
 cells : ∀ i, i < len → ∃ b off, ao = some ⟨b, off, none⟩ ∧ w.cell? ⟨b, off + i, none⟩ = some (.int k (zs.getD i 0))
theorem RdI.nil (k : IntKind) (w : World) : RdI k w none 0 0 [] := ⟨rfl, Nat.le_refl _, by simp, fun _ => rfl, fun i h => by omega⟩
theorem RdI.of_row {k : IntKind} {w : World} {a : Option Addr} {len cap : Nat} {zs : List Int} (h : (a = none ∧ len = 0 ∧ cap = 0 ∧ zs = []) ∨
   ∃ x, a = some x ∧ len ≤ cap ∧ cap ≤ maxLen ∧ zs.length = cap ∧ (∀ i, i < zs.length → w.cell? (x.add i) = some (.int k (zs.getD i 0))) ∧ ∀ n ∈ zs, (Lit.int k n).wf = true) : RdI k w a len cap (zs.take len) := by
 rcases h with ⟨rfl, rfl, rfl, rfl⟩ | ⟨x, rfl, hl, hm, hz, hc, _⟩
 · exact RdI.nil k w
 · refine ⟨by rw [List.length_take]; omega, hl, hm, fun h => (by cases h), fun i hi => ?_⟩
   have hci := hc i (by omega)
   have hs : (x.add i).spot = none := World.cell?_spot hci
   obtain ⟨b, off, spot⟩ := x
   have hs0 : spot = none := by
     by_cases h0 : i = 0
     · subst h0; simpa [Addr.add] using hs
     · have h0c := World.cell?_spot (hc 0 (by omega)); simpa [Addr.add] using h0c
   subst hs0
   refine ⟨b, off, rfl, ?_⟩
   have e : (⟨b, off, none⟩ : Addr).add i = ⟨b, off + i, none⟩ := by unfold Addr.add; split <;> simp_all
   rw [e] at hci
   rw [hci]; simp [List.getD_eq_getElem?_getD, hi]
theorem RdI.split {k : IntKind} {w : World} {ao : Option Addr} {len cap : Nat} {zs : List Int} (h : RdI k w ao len cap zs) :
   (len = 0 ∧ zs = []) ∨ (0 < len ∧ ∃ b off, ao = some ⟨b, off, none⟩ ∧ b < w.heap.size ∧ ∀ i, i < len → w.cell? ⟨b, off + i, none⟩ = some (.int k (zs.getD i 0))) := by
 rcases Nat.eq_zero_or_pos len with h0 | h0
 · exact .inl ⟨h0, List.eq_nil_of_length_eq_zero (by rw [h.size, h0])⟩
 · obtain ⟨b, off, ha, hc⟩ := h.cells 0 h0
   refine .inr ⟨h0, b, off, ha, World.block_lt_of_cell? w _ hc, fun i hi => ?_⟩
   obtain ⟨b', off', ha', hc'⟩ := h.cells i hi
   rw [ha] at ha'; cases ha'; exact hc'
theorem RdI.below {k : IntKind} {w w' : World} {ao : Option Addr} {len cap : Nat} {zs : List Int} (h : RdI k w ao len cap zs) (hb : Below w.heap.size w w') : RdI k w' ao len cap zs := by
 refine ⟨h.size, h.lc, h.cm, h.nul, fun i hi => ?_⟩
 obtain ⟨b, off, ha, hc⟩ := h.cells i hi
 exact ⟨b, off, ha, by rw [hb.cell (p := ⟨b, off + i, none⟩) (World.block_lt_of_cell? w _ hc)]; exact hc⟩
theorem RdI.of_own {k : IntKind} {w : World} {base e : Nat} {ao : Option Addr} {len cap : Nat} {zs : List Int} (h : w.ownsRow base e 1 (.slice ao len cap) len (zs.map (Value.int k))) : RdI k w ao len cap zs := by
 obtain ⟨h1, h2⟩ := h
 have hl : zs.length = len := by simpa using h1
 rcases h2 with ⟨hv, hn⟩ | ⟨g, cap', cur, hv, hg, hh, hnc, hcm, hcs, ht⟩
 · cases hv
   exact ⟨hl, Nat.le_refl _, by simp, fun _ => rfl, fun i h => by omega⟩
 · cases hv
   refine ⟨hl, hnc, hcm, fun h => (by cases h), fun i hi => ⟨g, 0, rfl, ?_⟩⟩
   have hi' : i < zs.length := by omega
   have : cur[i]? = some (.int k (zs.getD i 0)) := by
     have h3 : (cur.toList.take (len * 1))[i]? = some (.int k (zs.getD i 0)) := by
       rw [ht]; simp [hi']
     rw [List.getElem?_take] at h3
     split at h3
     · simpa using h3
     · cases h3
   simp [World.cell?, hh, this]
theorem own_cells {w : World} {base e n : Nat} {ao : Option Addr} {cap : Nat} {xs : List Value} (h : w.ownsRow base e 1 (.slice ao n cap) n xs) :
   ∃ g : Nat, 0 < n → ao = some ⟨g, 0, none⟩ ∧ base ≤ g ∧ g < w.heap.size ∧ n ≤ cap ∧ ∀ q, q < n → w.cell? ⟨g, q, none⟩ = xs[q]? := by
 rcases h.2 with ⟨hv, hn⟩ | ⟨g, cap', cur, hv, hg, hh, hnc, hcm, hcs, ht⟩
 · exact ⟨0, fun h0 => by omega⟩
 · cases hv
   refine ⟨g, fun _ => ⟨rfl, hg, (Array.getElem?_eq_some_iff.1 hh).1, hnc, fun q hq => ?_⟩⟩
   rw [← ht, List.getElem?_take, if_pos (by omega)]
   simp [World.cell?, hh]
theorem set_other {w : World} {b o b' o' : Nat} {v : Value} (h : b ≠ b') : (w.setCell ⟨b, o, none⟩ v).cell? ⟨b', o', none⟩ = w.cell? ⟨b', o', none⟩ :=
 World.cell?_setCell_other _ _ _ _ (fun e => h (congrArg Addr.block e))
theorem cell_one_at (w : World) (x : Value) (t g : Nat) (hg : g = w.heap.size) : ∀ j u, [x][j]? = some u → (w.alloc (.cells #[x] t)).cell? ((⟨g, 0, none⟩ : Addr).add j) = some u := by
 subst hg; exact cell_one_new w x t
theorem own_shape {w : World} {base e size n : Nat} {v : Value} {xs : List Value} (h : w.ownsRow base e size v n xs) : ∃ ao cap, v = .slice ao n cap := by
 rcases h.2 with ⟨hv, hn⟩ | ⟨g, cap, cur, hv, _⟩
 · exact ⟨none, 0, by rw [hv, hn]⟩
 · exact ⟨some ⟨g, 0, none⟩, cap, hv⟩
theorem own_block {w : World} {base e size n : Nat} {v : Value} {xs : List Value} (h : w.ownsRow base e size v n xs) {k : Nat} (hk : k < base) : some k ≠ v.ownBlock := by
 rcases h.2 with ⟨hv, _⟩ | ⟨g, cap, cur, hv, hg, _⟩
 · rw [hv]; intro e; cases e
 · rw [hv]; intro e; simp [Value.ownBlock] at e; omega
theorem RdI.hi {k : IntKind} {P : Program} {t : TypeId} (ht : P.underlying t = some (.slice (P.elem t))) (hsz : ∀ wx : World, (sizeOf (P.elem t)).run P wx = .ok 1 wx) {w : World} {ao : Option Addr} {len cap : Nat} {zs : List Int} (R : RdI k w ao len cap zs) (h : Nat) (hh : h ≤ len) (kh : IntKind) :
   (∀ wx : World, (Instr.slice t (.slice ao len cap) none (some (.int kh h)) none).run P wx = .ok (.slice ao h cap) wx) ∧ RdI k w ao h cap (zs.take h) := by
 have hc := R.lc
 refine ⟨fun wx => ?_, ⟨by rw [List.length_take, R.size]; omega, by omega, R.cm, R.nul, fun i hi => ?_⟩⟩
 · rw [run_slice_h wx t ao len cap ht kh h (by omega) (by omega), hsz]
   simp only [Result.andThen, sliced, Int.toNat_natCast, Nat.zero_mul, Nat.sub_zero]
   congr 2
   split
   · rfl
   · cases ao <;> simp [Addr.add]
 · obtain ⟨b, off, ha, hcl⟩ := R.cells i (by omega)
   exact ⟨b, off, ha, by rw [hcl]; simp [List.getD_eq_getElem?_getD, hi]⟩
theorem RdI.lo {k : IntKind} {P : Program} {t : TypeId} (ht : P.underlying t = some (.slice (P.elem t))) (hsz : ∀ wx : World, (sizeOf (P.elem t)).run P wx = .ok 1 wx) {w : World} {ao : Option Addr} {len cap : Nat} {zs : List Int} (R : RdI k w ao len cap zs) (l : Nat) (hl : l ≤ len) (kl : IntKind) :
   ∃ a', (∀ wx : World, (Instr.slice t (.slice ao len cap) (some (.int kl l)) none none).run P wx = .ok (.slice a' (len - l) (cap - l)) wx) ∧ RdI k w a' (len - l) (cap - l) (zs.drop l) := by
 have hc := R.lc
 have hm := R.cm
 refine ⟨if cap = l then ao else ao.map (·.add (l * 1)), fun wx => ?_, ⟨by rw [List.length_drop, R.size], by omega, by omega, fun h => ?_, fun i hi => ?_⟩⟩
 · rw [run_slice_l wx t ao len cap ht kl l (by omega) (by omega), hsz]
   simp only [Result.andThen, sliced, Int.toNat_natCast]
 · split at h
   · have := R.nul h; omega
   · cases ao with
     | none => have := R.nul rfl; omega
     | some x => cases h
 · obtain ⟨b, off, ha, hcl⟩ := R.cells (l + i) (by omega)
   refine ⟨b, off + l, ?_, ?_⟩
   · rw [if_neg (by omega), ha]
     simp only [Option.map_some, Nat.mul_one, Addr.add]
     split
     · simp_all
     · rfl
   · rw [Nat.add_assoc, hcl]; simp [List.getD_eq_getElem?_getD, List.getElem?_drop]
theorem _root_.Go.RowKit.Below.drewN {B : Nat} {a w : World} (h : Below B a w) (n : Nat) : Below B a (w.drewN n) := ⟨h.os, h.tape, h.output, h.size, h.block⟩
theorem btrans {a b c : World} (h : Below a.heap.size a b) (k : Below b.heap.size b c) : Below a.heap.size a c := h.trans (k.mono h.size)
end Go.Proofs.YtajnfkmkombajabDoor
namespace Go.Proofs.YtajnfkmkombajabDoor
open Go.RowKit
def gE : Nat → Nat
 | 1 => 8
 | 2 => 0
 | 3 => 4
 | 4 => 5
 | 5 => 2
 | 6 => 3
 | 7 => 7
 | 8 => 6
 | 9 => 9
 | 10 => 1
 | _ => 0
def ev (A : Nat → Addr) (c : Nat) : Value := if c = 0 then .nilIface else .iface 273 (.pointer (some (A c)))
theorem ev_nil (A : Nat → Addr) : ev A 0 = .nilIface := rfl
theorem ev_some (A : Nat → Addr) {c : Nat} (h : c ≠ 0) : ev A c = .iface 273 (.pointer (some (A c))) := if_neg h
structure Errs (A : Nat → Addr) (S : List Nat) (w : World) : Prop where
 cell : ∀ c, c ∈ S → w.cell? ⟨gE c, 0, none⟩ = some (ev A c)
theorem Errs.below {A : Nat → Addr} {S : List Nat} {w w' : World} (h : Errs A S w) (hb : Below w.heap.size w w') : Errs A S w' :=
 ⟨fun c hc => by rw [hb.cell (p := ⟨gE c, 0, none⟩) (World.block_lt_of_cell? w _ (h.cell c hc))]; exact h.cell c hc⟩
theorem Errs.drewN {A : Nat → Addr} {S : List Nat} {w : World} (h : Errs A S w) (n : Nat) : Errs A S (w.drewN n) := ⟨fun c hc => h.cell c hc⟩
def Dr (w w' : World) : Prop := ∃ n, w.drewN n = w'
theorem Dr.refl (w : World) : Dr w w := ⟨0, rfl⟩
theorem Dr.trans {a b c : World} (h : Dr a b) (k : Dr b c) : Dr a c := by
 obtain ⟨n, rfl⟩ := h; obtain ⟨m, rfl⟩ := k; exact ⟨n + m, by simp [World.drewN, Nat.add_assoc]⟩
theorem Dr.drew (w : World) : Dr w w.drew := ⟨1, rfl⟩
theorem Dr.below {w w' : World} (h : Dr w w') : Below w.heap.size w w' := by
 obtain ⟨n, rfl⟩ := h; exact ⟨rfl, rfl, rfl, Nat.le_refl _, fun _ _ => rfl⟩
end Go.Proofs.YtajnfkmkombajabDoor
namespace Go.Proofs.YtajnfkmkombajabDoor
open Go.RowKit Go.ChangeShapes
theorem Tryd.star : "*" ++ "errors.errorString" = "*errors.errorString" := by decide +kernel
theorem Tryd.rowErr (u : TypeId) (h : Tryd.prog.typeName? 3 u = some "*errors.errorString") : u = 273 :=
 typeName_ptr_named (P := Tryd.prog) (nm := "errors.errorString") (by rw [Tryd.star]; kernel_rfl) (by kernel_rfl) (by decide) u (by rw [Tryd.star]; exact h)
theorem Tryd.cellsErr : Tryd.prog.cellsOf 293 = 1 := by kernel_rfl
theorem Tryd.cellsStr : Tryd.prog.cellsOf 9 = 1 := by kernel_rfl
def LaidAs : List Nat → List (String × DataW Unit) → Prop
 | [], [] => True
 | c :: cs, x :: r => (c ≠ 0 ∧ c ∉ cs ∧ Tryd.prog.globalNamed x.1 = some (gE c) ∧ (Tryd.prog.globals[gE c]?).map (·.type) = some 33 ∧ ∃ text, x.2 = .iface "*errors.errorString" (.ptr (.agg [.lit (.string text)]))) ∧ LaidAs cs r
 | _, _ => False
end Go.Proofs.YtajnfkmkombajabDoor
namespace Go.Proofs.YtajnfkmkombajabDoor
open Go Go.Conc
inductive FKind where
 | no
 | bare
 | win (p : Nat → Bool)
def FKind.rng (lo hi : Nat) : FKind := .win fun i => decide (lo ≤ i) && decide (i < hi)
structure Foot where
 kind : Nat → FKind
def FKind.is : FKind → Bool
 | .no => false
 | _ => true
def Foot.has (F : Foot) (b : Nat) : Prop := (F.kind b).is = true
def Foot.rho (F : Foot) : Rho := fun b B => b = B ∧ F.has b
def Foot.val (ok : Fn → Prop) (F : Foot) (v : Value) : Prop := VR ok F.rho v v
theorem mask_ex (ok : Fn → Prop) (ρ : Rho) : ∀ (n : Nat) (v : Value), SizeOf.sizeOf v < n → ∃ x, VR ok ρ x v := by
 intro n
 induction n with
 | zero => intro v h; omega
 | succ n ih =>
   intro v h
   have row : ∀ X : Array Value, SizeOf.sizeOf X < n + 1 → ∃ x : Array Value, VRs ok ρ x X := by
     intro X hX
     have : ∀ i : Fin X.size, ∃ y, VR ok ρ y X[i] := fun i => ih _ (by
       have := Array.sizeOf_getElem X i.1 i.2
       show SizeOf.sizeOf (X[i.1]'i.2) < n
       omega)
     refine ⟨Array.ofFn fun i => Classical.choose (this i), by simp, fun i a b ha hb => ?_⟩
     have hi := Array.getElem?_eq_some_iff.1 hb
     have ha' := Array.getElem?_eq_some_iff.1 ha
     rw [← hi.2, ← ha'.2]
     simp only [Array.getElem_ofFn]
     exact Classical.choose_spec (this ⟨i, hi.1⟩)
   cases v with
   | bool b => exact ⟨_, .bool b⟩
   | int k n => exact ⟨_, .int k n⟩
   | float k b => exact ⟨_, .hole rfl⟩
   | complex k a b => exact ⟨_, .hole rfl⟩
   | string s => exact ⟨_, .string s⟩
   | pointer a => cases a with
     | none => exact ⟨_, .pnil⟩
     | some a => exact ⟨_, .hole rfl⟩
   | slice a l c => cases a with
     | none => exact ⟨_, .snil l c⟩
     | some a => exact ⟨_, .hole rfl⟩
   | map r => cases r with
     | none => exact ⟨_, .mnil⟩
     | some a => exact ⟨_, .hole rfl⟩
   | chan r => cases r with
     | none => exact ⟨_, .cnil⟩
     | some a => exact ⟨_, .hole rfl⟩
   | func f x c => exact ⟨_, .holeF⟩
   | nilFunc => exact ⟨_, .nilFunc⟩
   | iface t v =>
     obtain ⟨x, hx⟩ := ih v (by simp at h; omega)
     exact ⟨_, .iface t hx⟩
   | nilIface => exact ⟨_, .nilIface⟩
   | agg X =>
     obtain ⟨x, hx⟩ := row X (by simp at h; omega)
     exact ⟨_, .agg' hx⟩
   | tuple X =>
     obtain ⟨x, hx⟩ := row X (by simp at h; omega)
     exact ⟨_, .tuple' hx⟩
noncomputable def mask (ok : Fn → Prop) (ρ : Rho) (v : Value) : Value := Classical.choose (mask_ex ok ρ (SizeOf.sizeOf v + 1) v (Nat.lt_succ_self _))
theorem mask_vr (ok : Fn → Prop) (ρ : Rho) (v : Value) : VR ok ρ (mask ok ρ v) v := Classical.choose_spec (mask_ex ok ρ (SizeOf.sizeOf v + 1) v (Nat.lt_succ_self _))
noncomputable def maskRow (ok : Fn → Prop) (ρ : Rho) (p : Nat → Bool) (c : Array Value) : Array Value := c.mapIdx fun i v => if p i = true then v else mask ok ρ v
noncomputable def loneObj (ok : Fn → Prop) (F : Foot) (b : Nat) (o : Obj) : Obj :=
 match o with
 | .cells c t f => match F.kind b with
   | .bare => .cells #[] t (0, 0)
   | .win p => .cells (maskRow ok F.rho p c) t (0, c.size)
   | .no => .cells c t f
 | o => o
noncomputable def loneW (ok : Fn → Prop) (F : Foot) (W : World) : World := { W with heap := W.heap.mapIdx fun b o => loneObj ok F b o }
section
variable {P : Program} {ok : Fn → Prop} {F : Foot} {S M : Nat → Prop} {W : World}
theorem loneW_size : (loneW ok F W).heap.size = W.heap.size := by unfold loneW; simp
theorem loneW_at (b : Nat) : (loneW ok F W).heap[b]? = (W.heap[b]?).map (loneObj ok F b) := by unfold loneW; simp
structure FootOk (P : Program) (ok : Fn → Prop) (F : Foot) (eq : Bool) (W : World) : Prop where
 old : ∀ b, F.has b → ∃ c t f, W.heap[b]? = some (.cells c t f) ∧ (eq = true → f = (0, 0)) ∧ ∀ p, F.kind b = .win p → ∀ (i : Nat) (v : Value), p i = true → c[i]? = some v → F.val ok v
 gW : P.globals.size ≤ W.heap.size
def Foot.olds (F : Foot) (eq : Bool) : Olds := ⟨F.has, eq⟩
def Foot.sh (F : Foot) : Nat → Prop := F.has
theorem foot_hr {eq : Bool} (h : FootOk P ok F eq W) : HR P ok (F.olds eq) F.sh F.rho (fun _ => False) (loneW ok F W) W := by
 have hlt : ∀ b, F.has b → b < W.heap.size := fun b q => by
   obtain ⟨c, t, f, h1, -⟩ := h.old b q
   exact (Array.getElem?_eq_some_iff.1 h1).1
 have hat : ∀ b, F.has b → ∃ c t f, W.heap[b]? = some (.cells c t f) ∧ (loneW ok F W).heap[b]? = some (loneObj ok F b (.cells c t f)) := fun b q => by
   obtain ⟨c, t, f, h1, -⟩ := h.old b q
   exact ⟨c, t, f, h1, by rw [loneW_at, h1]; rfl⟩
 refine ⟨?_, ?_, ?_, ?_, ?_, ?_, ?_, fun _ q => q.elim, ?_, ?_, ?_, ?_, h.gW⟩
 · rintro b B B' ⟨rfl, -⟩ ⟨rfl, -⟩; rfl
 · rintro b b' B ⟨rfl, -⟩ ⟨rfl, -⟩; rfl
 · rintro b B ⟨rfl, q⟩
   obtain ⟨c, t, f, h1, h2, h3⟩ := h.old b q
   refine ⟨_, _, by rw [loneW_at, h1]; rfl, h1, ?_⟩
   unfold loneObj
   cases hk : F.kind b with
   | no => exact absurd q (by unfold Foot.has; rw [hk]; simp [FKind.is])
   | bare => exact .pre t (Nat.zero_le _) (fun i v V hv => by simp at hv) (fun i hi => by simp at hi)
   | win p =>
     refine .cells t ⟨by simp [maskRow], fun i v V hv hV => ?_⟩ (fun i hi _ => by simpa [maskRow] using hi)
     simp only [maskRow, Array.getElem?_mapIdx, hV, Option.map_some, Option.some.injEq] at hv
     subst hv
     split
     · next hw => exact h3 p hk i V hw hV
     · exact mask_vr _ _ _
 · rintro b B ⟨rfl, -⟩; exact Iff.rfl
 · rintro b B ⟨rfl, -⟩ q
   obtain ⟨c, t, f, h1, h2⟩ := hat b q
   rw [h2]
   unfold loneObj
   cases hk : F.kind b with
   | no => exact absurd q (by show ¬ F.has b; unfold Foot.has; rw [hk]; simp [FKind.is])
   | bare => exact ⟨#[], t, rfl⟩
   | win p => exact ⟨maskRow ok F.rho p c, t, by simp [maskRow]⟩
 · rintro b B ⟨rfl, -⟩ q; exact q
 · rintro b B ⟨rfl, q⟩ hno; exact absurd q hno
 · intro b q
   rw [loneW_size]
   exact hlt b q
 · rw [loneW_size]; exact h.gW
 · rintro b B ⟨rfl, q⟩ hno; exact absurd q hno
 · rintro b B ⟨rfl, q⟩ e C t F' hC
   obtain ⟨c, t', f, h1, h2, -⟩ := h.old b q
   rw [h1] at hC
   cases hC
   exact h2 (e.resolve_right fun hno => hno q)
theorem foot_cellP {b o : Nat} {p : Nat → Bool} {v : Value} (hF : F.kind b = .win p) (h1 : p o = true) (hv : W.cell? ⟨b, o, none⟩ = some v) : (loneW ok F W).cell? ⟨b, o, none⟩ = some v := by
 unfold World.cell? at *
 rw [loneW_at]
 cases hb : W.heap[b]? with
 | none => rw [hb] at hv; cases hv
 | some x =>
   rw [hb] at hv
   cases x with
   | cells c t f =>
     simp only [Option.map_some, loneObj, hF] at hv ⊢
     split at hv
     · cases hv
     · next q =>
       rw [if_neg q]
       simp only [maskRow, Array.getElem?_mapIdx, hv, Option.map_some]
       rw [if_pos h1]
   | _ => cases hv
theorem foot_cell {b o lo hi : Nat} {v : Value} (hF : F.kind b = .rng lo hi) (h1 : lo ≤ o) (h2 : o < hi) (hv : W.cell? ⟨b, o, none⟩ = some v) : (loneW ok F W).cell? ⟨b, o, none⟩ = some v :=
 foot_cellP (p := fun i => decide (lo ≤ i) && decide (i < hi)) hF (by simp [h1, h2]) hv
theorem foot_bare {b : Nat} {c : Array Value} {t : TypeId} {f : Nat × Nat} (hF : F.kind b = .bare) (h : W.heap[b]? = some (.cells c t f)) : (loneW ok F W).heap[b]? = some (.cells #[] t (0, 0)) := by
 rw [loneW_at, h]
 simp [loneObj, hF]
theorem val_ptr {a : Addr} (h : F.has a.block) : F.val ok (.pointer (some a)) := .ptr ⟨a.block, ⟨rfl, h⟩, rfl⟩
theorem val_slice {a : Addr} (n m : Nat) (h : F.has a.block) : F.val ok (.slice (some a) n m) := .slice n m ⟨a.block, ⟨rfl, h⟩, rfl⟩
theorem val_iface {v : Value} (t : TypeId) (h : F.val ok v) : F.val ok (.iface t v) := .iface t h
theorem val_int (k : IntKind) (n : Int) : F.val ok (.int k n) := .int k n
theorem vals_refl {x : Array Value} (h : ∀ v ∈ x, F.val ok v) : VRs ok F.rho x x := ⟨rfl, fun i v V a b => by rw [a] at b; cases b; exact h v (Array.mem_of_getElem? a)⟩
theorem vr_ptr_old {ρ : Rho} (e : Ext P F.rho ρ) {a : Addr} {V : Value} (hF : F.has a.block) (h : VR ok ρ (.pointer (some a)) V) : V = .pointer (some a) := by
 cases h with
 | ptr h =>
   obtain ⟨B, hB, rfl⟩ := h
   have := e.fn _ _ _ hB (e.le _ _ ⟨rfl, hF⟩)
   subst this
   rfl
end
end Go.Proofs.YtajnfkmkombajabDoor
namespace Go.Proofs.YtajnfkmkombajabDoor
open Go Go.Conc
section
variable {P : Program} {mn : Bool} {I : World → Prop} {good : FuncId → Bool} {Gl : Gs} {S : Nat → Prop} {Post : Value → World → Prop} {Base Cs : List Frame} {C : Frame} {Stop : Goroutine → World → (Nat → Prop) → Prop} {g : Goroutine} {W : World} {M : Nat → Prop}
theorem EvOk.widen {S S' M M' : Nat → Prop} (h1 : ∀ B, S' B ∨ M' B → S B ∨ M B) (h2 : ∀ B, M' B → M B) {e : Event} (h : EvOk S' M' e) : EvOk S M e := by
 unfold EvOk at h ⊢
 split at h
 · refine ⟨h.1, ?_⟩
   have := h.2
   split at this
   · next q => rw [if_pos q]; exact h2 _ this
   · next q => rw [if_neg q]; exact h1 _ this
 · refine ⟨h.1, ?_⟩
   have := h.2
   split at this
   · next q => rw [if_pos q]; exact h2 _ this
   · next q => rw [if_neg q]; exact h1 _ this
 · exact h
 · exact h
theorem gw_aside' {S' : Nat → Prop} (hS : ∀ b, S' b → (S b ∨ M b) ∧ b < W.heap.size) (hM : ∀ b, M b → b < W.heap.size) (h : GoesW P mn I S' Stop g W (fun _ => False)) :
   GoesW P mn I S (fun g W' M' => ∃ N, Stop g W' N ∧ (∀ b, M' b ↔ M b ∨ N b) ∧ (∀ b, N b → W.heap.size ≤ b ∧ b < W'.heap.size) ∧ RelyS S M W W') g W M := by
 have key : ∀ g V (N : Nat → Prop), GoesW P mn I S' Stop g V N → (∀ b : Nat, N b → W.heap.size ≤ b ∧ b < V.heap.size) → RelyS S M W V →
     ∀ M2, (∀ b, M2 b ↔ M b ∨ N b) → GoesW P mn I S (fun g W' M' => ∃ N, Stop g W' N ∧ (∀ b, M' b ↔ M b ∨ N b) ∧ (∀ b, N b → W.heap.size ≤ b ∧ b < W'.heap.size) ∧ RelyS S M W W') g V M2 := by
   intro g V N h
   have hr : ∀ {N V V1 M2}, (∀ b, M2 b ↔ M b ∨ N b) → RelyS S M2 V V1 → RelyS S' N V V1 := fun {N V V1 M2} h2 r => r.mono fun B hB => hB.elim (fun q => (hS B q).1.imp id fun q => (h2 B).2 (.inl q)) fun q => .inr ((h2 B).2 (.inr q))
   have hr2 : ∀ {N : Nat → Prop} {V V1 : World} {M2 : Nat → Prop}, (∀ b, M2 b ↔ M b ∨ N b) → RelyS S M2 V V1 → RelyS S M V V1 := fun {N V V1 M2} h2 r => r.mono fun B hB => hB.imp id fun q => (h2 B).2 (.inl q)
   induction h with
   | stop h =>
     intro hN hk M2 h2
     exact .stop fun V1 r i => ⟨_, h V1 (hr h2 r) i, h2, fun b q => ⟨(hN b q).1, Nat.lt_of_lt_of_le (hN b q).2 r.size⟩, hk.trans (hr2 h2 r)⟩
   | @step g V N hrun h k ih =>
     intro hN hk M2 h2
     refine .step hrun (fun V1 r i => ?_) (fun V1 r i g' V' es hg => ?_)
     · obtain ⟨g', V', es, e1, e2, e3⟩ := h V1 (hr h2 r) i
       refine ⟨g', V', es, e1, ⟨e2.os, e2.out, e2.tape, e2.drawn, e2.size, fun B hB hM => e2.keep B hB fun q => hM ((h2 B).2 (.inr q)), fun B => Iff.rfl⟩, fun e he => ?_⟩
       have g1 : ∀ B, growM N V1 V' B → growM M2 V1 V' B := fun B q => q.imp (fun q => (h2 B).2 (.inr q)) id
       exact (e3 e he).widen (fun B q => q.elim (fun q => (hS B q).1.imp id fun q => .inl ((h2 B).2 (.inl q))) fun q => .inr (g1 B q)) g1
     · obtain ⟨g2, V2, es2, e1, e2, -⟩ := h V1 (hr h2 r) i
       rw [e1] at hg
       cases hg
       have hsz := r.size
       have hs1 := e2.size
       have hks := hk.size
       have k1 : RelyS S M W V1 := hk.trans (hr2 h2 r)
       refine ih V1 (hr h2 r) i _ _ _ e1 (fun b hb => ?_) ⟨e2.os.trans k1.os, e2.out.trans k1.out, e2.tape.trans k1.tape, Nat.le_trans k1.size hs1, fun B hB hs => ?_⟩ _ fun b => ?_
       · rcases hb with q | q
         · have := hN b q; omega
         · omega
       · rw [e2.keep B (by omega) fun q => by have := (hN B q).1; omega]
         exact k1.keep B hB hs
       · constructor
         · rintro (q | q)
           · exact ((h2 b).1 q).imp id .inl
           · exact .inr (.inr q)
         · rintro (q | q | q)
           · exact .inl ((h2 b).2 (.inl q))
           · exact .inl ((h2 b).2 (.inr q))
           · exact .inr q
 exact key g W _ h (fun b q => q.elim) (RelyS.refl _ _ _) M fun b => ⟨.inl, fun q => q.elim id False.elim⟩
theorem gw_lone {F : Foot} {eq : Bool} {fr0 Fr0 : Frame} (hP : GoodP P good Gl) (hQ : Gl.eq = true → eq = true) (hG : ∀ g, Gl.gl g = true → F.has g) (hF : FootOk P (okFn good) F eq W)
   (hS : ∀ b, F.has b → S b ∨ M b) (hM : ∀ b, M b → b < W.heap.size) (hfr : FrA P good Gl F.rho fr0 Fr0)
   (hC : ∀ τ, CallsFrom P fr0 { loneW (okFn good) F W with tape := τ } (fun e w' => ∃ v, e = .returned v ∧ Post v w'))
   (hk : ∀ V v w ρ W1 N, VR (okFn good) ρ v V → HR P (okFn good) (F.olds eq) F.sh ρ N w W1 → Ext P F.rho ρ → Post v w → (∀ b, N b → W.heap.size ≤ b ∧ b < W1.heap.size) → RelyS S M W W1 → I W1 → GoesW P mn I S Stop (G (C.finish V) Cs) W1 (fun b => M b ∨ N b)) :
   GoesW P mn I S Stop (G Fr0 (C :: Cs)) W M := by
 have hlt : ∀ b, F.sh b → b < W.heap.size := fun b q => by
   obtain ⟨c, t, f, h1, -⟩ := hF.old b q
   exact (Array.getElem?_eq_some_iff.1 h1).1
 have hl := lift_from (mn := mn) (I := I) (Base := C :: Cs) hP (Zo := F.olds eq) (fun q => hQ q) (fun g q => ⟨rfl, hG g q⟩) hfr (foot_hr hF) hC
 refine (gw_aside' (S := S) (M := M) (fun b q => ⟨hS b q, hlt b q⟩) hM hl).bind fun g W1 M' ⟨N, ⟨Fr, fr, w, ρ, v, e, hm, hf, hr, he, hlv, hp⟩, h2, hN, hkp⟩ hI => ?_
 subst e
 obtain rfl : M' = fun b => M b ∨ N b := funext fun b => propext (h2 b)
 cases hf with
 | @mk fn t T td md hfn ht hi hmd =>
   obtain rfl : md = .returning := hm
   obtain ⟨-, -, -, fd, g1, g2⟩ := hlv
   have h1 : ((results fd t).runT P w #[]).1 = .ok v w := by rw [Sem.runT_fst]; exact g2
   have ht' : ∀ j, W1.drawn + j < (Go.Result.world ((results fd T).runT P W1 #[]).1).drawn → w.tape (w.drawn + j) = W1.tape (W1.drawn + j) := fun j hj => by
     rw [(nt_results fd T).world] at hj; omega
   rcases (sr_results (P := P) (ok := okFn good) fd ht).sim #[] #[] hr ht' with ⟨x, w', hx, h⟩ | ⟨a, V, w', W', ρ', M', es', new, k1, k2, k3, k4, k5, k6, k7, k8, k9, k10⟩
   · rw [h1] at h; cases h
   · have hw : W' = W1 := by
       have := (nt_results (P := P) fd T).world W1 #[]
       rw [k2] at this; exact this
     subst hw
     rw [k1] at h1
     cases h1
     have hM' : M' = N := funext fun B => propext ⟨fun q => ((k6.mine B).1 q).elim id fun ⟨a, b⟩ => by omega, fun q => (k6.mine B).2 (.inl q)⟩
     subst hM'
     have k2' : (results fd T).runT P W' #[] = (.ok V W', new) := by rw [k2]; simp
     refine ⟨rfl, _, _, _, st_results g1 k2', ?_, ?_, ?_⟩ <;> rw [growM_still _ W' rfl]
     · exact Moves.refl _ _
     · exact fun e he => (k10 e (seen_sub P fn new e he)).widen (fun B q => q.elim (fun q => (hS B q).imp id .inl) fun q => .inr (.inr q)) fun B q => .inr q
     · exact hk V _ _ ρ' W' M' k3 k5 (he.trans k4) hp hN hkp hI
theorem fr_enter {F : Foot} {f : FuncId} {x : Array Value} (hP : GoodP P good Gl) (hgf : good f = true) (hb : ∃ fn b, P.funcs[f]? = some fn ∧ fn.body = some b) (hx : ∀ v ∈ x, F.val (okFn good) v) : FrA P good Gl F.rho (Frame.enter P f x .normal) (Frame.enter P f x .normal) := by
 obtain ⟨fd, bd, g1, g2, g3, g4⟩ := hP.body hgf hb
 have hx := vals_refl hx
 rw [enter_mkF g1 g3]
 refine .mk ⟨_, g1⟩ (hx.append (VRs.replicate _)) (fun it hi => ?_) (.inl rfl)
 rcases List.mem_cons.1 hi with q | q
 · rw [q]; exact g4
 · cases q
end
end Go.Proofs.YtajnfkmkombajabDoor
