/-
  The company: from the first go statement to the end of Wait, on every tape.
  Goroutine 0 alone, or beside others that only leave: on every tape it comes to its stop, or to the return.
  From calm to the company and back; a special block is made.
  The walk of a goroutine in company: one law for each move. No program in sight.
-/
import Derived.Test.YtajnfkmkombajabDoorQSD13
import Derived.Conc.Beside
import Derived.Conc.WgGenN3
set_option linter.unusedVariables false
set_option linter.unusedSimpArgs false
namespace Go.Proofs.YtajnfkmkombajabDoor
open Go Go.Conc Go.ConcN
open Go.ConcR (KK wgBlock WgAt stA smA Bk rd wr)
section
variable {P : Program} {F : Farm P} {N j : Nat} {gs : Array Goroutine} {w : World} {sl : Option (Nat × Nat)} {t : Trace} {D : Nat → WD' P} {Own Rd : Nat → Nat → Prop} {Sp got : Nat → Prop} {tag : CT'} {d0 : Nat} {lv0 : Lv P} {a : Goroutine} {st sm : Int} {cl : Bool} {s : Nat}
theorem sumTo_nought : ∀ j : Nat, sumTo j (fun _ => 0) = 0
 | 0 => rfl
 | j + 1 => by simp only [sumTo, sumTo_nought j]
theorem Farm.WSit.tk_some {S M : Nat → Prop} {x d k : Nat} {tk : Option Nat} {lv : Lv P} {g : Goroutine} (h : F.WSit S M x tk d lv g w) (hk : tk = some k) : x = 10 ∨ x = 11 := by
 cases h <;> first | (cases hk; done) | simp
theorem Farm.WSit.tk_10 {S M : Nat → Prop} {x d : Nat} {tk : Option Nat} {lv : Lv P} {g : Goroutine} (h : F.WSit S M x tk d lv g w) (hk : tk = none) : x ≠ 10 ∧ x ≠ 11 := by
 cases h <;> first | (cases hk; done) | simp
theorem someone (L : F.Law) (hR : ∀ S g w M, F.Ret S g w M → g.status = .running) (ha : gs[0]? = some a) (hcs : F.CSit (Rd 0) (Own 0) got tag d0 lv0 a w) (hcom : F.Com j gs w t D Own Rd Sp d0) (hmode : Mode' j (stg D) tag st sm) (hph : F.Phase N j D tag got cl) : ∃ (i : Nat) (g : Goroutine), gs[i]? = some g ∧ g.status = .running := by
 -- a worker that is neither waiting nor done
 have wk : ∀ i, i < j → (D i).st ≠ 8 → (D i).st ≠ 10 → (D i).st ≠ 1 → ∃ (i : Nat) (g : Goroutine), gs[i]? = some g ∧ g.status = .running := by
   intro i hi h8 h10 h1
   obtain ⟨g, hg, hs⟩ := hcom.wk i hi
   rcases hs.status L hcom.inv with ⟨q, -⟩ | ⟨-, q⟩ | ⟨-, q⟩
   · exact ⟨i + 1, g, hg, q⟩
   · exact absurd q h1
   · rcases q with q | q
     · exact absurd q h8
     · exact absurd q h10
 rcases hcs.status L (hR _) hcom.inv with ⟨q, -⟩ | ⟨-, rfl | ⟨nx, rd, rfl⟩⟩
 · exact ⟨0, a, ha, q⟩
 · have hp := (hph.post (by simp [earlyT])).2
   have h10 : ∀ i, i < j → (D i).st ≠ 10 := fun i hi => by
     obtain ⟨g, hg, hs⟩ := hcom.wk i hi
     exact (hs.tk_10 (hp i hi).2).1
   cases hmode with
   | opn q _ _ => exact q.elim
   | fin q _ => exact q.elim
   | sema q _ => exact q.elim
   | reg _ h2 h3 =>
     have : ∃ i, i < j ∧ 5 ≤ stg D i := by
       refine Classical.byContradiction fun hno => ?_
       have hz : Vs j (stg D) = 0 := by
         have : Vs j (stg D) = sumTo j fun _ => 0 := sumTo_congr fun i hi => by
           have : ¬ 5 ≤ stg D i := fun q => hno ⟨i, hi, q⟩
           simp [cntS, this]
         rw [this, sumTo_nought]
       omega
     obtain ⟨i, hi, h5⟩ := this
     exact wk i hi (hp i hi).1 (h10 i hi) (by simp only [stg] at h5; omega)
   | last Lx _ h2 h3 h4 => exact wk Lx h2 (hp Lx h2).1 (h10 Lx h2) (by simp only [stg] at h3; omega)
 · obtain ⟨q1, q2, q3, q4, i0, hi0, h80⟩ := hph.sel nx rd (.inr rfl)
   obtain ⟨hr, hpk⟩ := hph.selp nx rd rfl
   refine Classical.byContradiction fun hno => ?_
   have hall : ∀ i, i < j → (D i).st = 8 ∨ (D i).st = 1 := fun i hi => by
     refine Classical.byContradiction fun hq => hno (wk i hi (fun q => hq (.inl q)) (hpk i hi).1 fun q => hq (.inr q))
   have htk : tks j D = 0 := tks_none fun i hi => by
     cases hh : (D i).tk with
     | none => rfl
     | some k =>
       obtain ⟨g, hg, hs⟩ := hcom.wk i hi
       have := hs.tk_some hh
       have := hall i hi
       omega
   have hn : nx < F.many := by omega
   have := hall i0 hi0
   exact (hpk i0 hi0).2 hn (by omega)
theorem all_wake (L : F.Law) (hR : ∀ S g w M, F.Ret S g w M → g.status = .running) (ha : gs[0]? = some a) (hcs : F.CSit (Rd 0) (Own 0) got tag d0 lv0 a w) (hcom : F.Com j gs w t D Own Rd Sp d0) : ∀ g ∈ gs, awake g := by
 intro g hg tm
 obtain ⟨i, hi⟩ := Array.mem_iff_getElem?.1 hg
 cases i with
 | zero =>
   rw [ha] at hi; cases hi
   rcases hcs.status L (hR _) hcom.inv with ⟨q, -⟩ | ⟨q, -⟩ <;> rw [q] <;> simp
 | succ i =>
   have hlt : i < j := by have := (Array.getElem?_eq_some_iff.1 hi).1; rw [hcom.size] at this; omega
   obtain ⟨g', hg', hs⟩ := hcom.wk i hlt
   rw [hi] at hg'; cases hg'
   rcases hs.status L hcom.inv with ⟨q, -⟩ | ⟨q, -⟩ | ⟨q, -⟩ <;> rw [q] <;> simp
def Farm.Done (F : Farm P) (N : Nat) (m : Machine) (t : Trace) : Prop :=
 ∃ (gs : Array Goroutine) (w : World) (sl : Option (Nat × Nat)) (D : Nat → WD' P) (Own Rd : Nat → Nat → Prop) (Sp : Nat → Prop) (a : Goroutine),
   m = crowd gs w sl ∧ gs[0]? = some a ∧ F.Ret (Rd 0) a w (Own 0) ∧ F.Com N gs w t D Own Rd Sp 0 ∧ ∀ i, i < N → (D i).st = 1 ∧ Over t (i + 1)
theorem rely_at (S M : Nat → Prop) (w : World) (d : Nat) : RelyS S M (w.at d) w := ⟨rfl, rfl, rfl, Nat.le_refl _, fun _ _ _ => rfl⟩
theorem farm_step (L : F.Law) (hR : ∀ S g w M, F.Ret S g w M → g.status = .running) (hn : N < 2147483648) (μ : Mu P) (m : Machine) (t : Trace) (h : F.Inv N μ m t) :
   F.Done N m t ∨ ∃ m' ops μ', stepT P m = (.next m', ops) ∧ Mu.lt μ' μ ∧ F.Inv N μ' m' (t ++ ops) := by
 obtain ⟨gs, w, sl, j, D, Own, Rd, Sp, got, tag, d0, lv0, a, st, sm, cl, s, rfl, ha, hcs, hcom, hwg, htd, hmode, hph, hacq, rfl⟩ := h
 have hpd : j + pendT tag ≤ N := by
   by_cases e : ∃ r x, tag = .sp r x
   · obtain ⟨r, x, rfl⟩ := e
     have := (hph.idle r x rfl).2.2
     simp only [pendT]
     split <;> omega
   · have := hph.full fun r x q => e ⟨r, x, q⟩
     have : pendT tag = 0 := by cases tag <;> first | rfl | exact absurd ⟨_, _, rfl⟩ e
     omega
 obtain ⟨i, g, d, sl', hg, hrun, hstep⟩ := crowd_pick (P := P) (w := w) (sl := sl) (all_wake L hR ha hcs hcom) (someone L hR ha hcs hcom hmode hph)
 rw [hstep]
 have hcs' := hcs.rely L (RelyS.at _ _ w d) hcom.inv
 have hcom' := hcom.at L d
 have hwg' : WgAt F.ty F.Wg (w.at d) st sm := hwg
 have htd' : (w.at d).heap[F.Td]? = some (.chan 0 #[] cl s s false) := htd
 cases i with
 | zero =>
   obtain rfl : g = a := by rw [ha] at hg; exact (Option.some.inj hg).symm
   rcases callerOwn (sl := sl') (lv0 := lv0) L hn ha hcs' hcom' hwg' htd' hmode hph hpd hacq hrun with h | ⟨r, rfl, rfl, h⟩ | ⟨nx, rd, rfl, rfl, h⟩ | ⟨rfl, rfl, h⟩
   · exact .inr h
   · exact .inr (callerStarts L ha hcom' hwg' htd' hmode hph h)
   · rcases h with ⟨h1, h2⟩ | ⟨h1, h2⟩
     · exact .inr (callerSel L hR ha hcs' hcom' hwg' htd' hmode hph h1 h2)
     · exact .inr (callerShuts L ha hcom' hwg' htd' hmode hph h1 h2)
   · left
     obtain rfl : j = N := hph.full (by simp)
     have hone : AllOne j (stg D) := by
       cases hmode with
       | opn q _ _ => exact q.elim
       | reg q _ _ => exact q.elim
       | last _ q _ _ _ => exact q.elim
       | sema q _ => exact q.elim
       | fin _ h2 => exact h2
     exact ⟨gs, w, sl, D, Own, Rd, Sp, g, rfl, ha, h w (rely_at _ _ w d) hcom.inv, hcom, fun i hi => ⟨hone i hi, hacq rfl i hi⟩⟩
 | succ i =>
   have hi : i < j := by have := (Array.getElem?_eq_some_iff.1 hg).1; rw [hcom.size] at this; omega
   rcases workerOwn (sl := sl') L hR hn ha hcs' hcom' hwg' htd' hmode hph hpd hacq hi hg hrun with h | ⟨g0, h1, h2, h3, h4, -, h5⟩ | ⟨k, v, h1, h2, h3, h4, h5⟩
   · exact .inr h
   · cases cl with
     | false => exact .inr (workerTakes L hR ha hcs' hcom' hwg' htd' hmode hph hi hg h1 h2 h3 h4 h5)
     | true => exact .inr (workerShut L hR ha hcs' hcom' hwg' htd' hmode hph hi hg h1 h2 h3 h4 h5)
   · exact .inr (workerGives L hR ha hcs' hcom' hwg' htd' hmode hph hi hg h1 h2 h3 h4 h5)
theorem farm_runs (L : F.Law) (hR : ∀ S g w M, F.Ret S g w M → g.status = .running) (hn : N < 2147483648) {μ : Mu P} {m : Machine} {t : Trace} (h : F.Inv N μ m t) : ∃ n m' t', runNT P n m t = (.next m', t') ∧ F.Done N m' t' :=
 reach_of_inv (F.Inv N) (F.Done N) (farm_step L hR hn) μ m t h
end
#print axioms farm_runs
end Go.Proofs.YtajnfkmkombajabDoor
namespace Go.Proofs.YtajnfkmkombajabDoor
open Go Go.Conc Go.ConcN
def OnSp (Sp : Nat → Prop) (I : World → Prop) : Prop := ∀ w w' : World, (∀ b, Sp b → w'.heap[b]? = w.heap[b]?) → I w → I w'
structure Calm (P : Program) (j : Nat) (gs : Array Goroutine) (w : World) (t : Trace) (q : Nat → Nat) (Own Rd : Nat → Nat → Prop) (Sp : Nat → Prop) : Prop where
 size : gs.size = j + 1
 lay : Lay Sp Own Rd j w.heap.size
 tr : Tr Sp Own Rd j w.heap.size t
 wk : ∀ i, i < j → ∃ g, gs[i + 1]? = some g ∧ QuitsD P (q i) (Deaf t (i + 1)) g
 rdsub : ∀ k, k ≤ j → ∀ b, Rd k b → Rd 0 b
 deaf0 : Deaf t 0 = 0
 over : ∀ i, i < j → Over t (i + 1)
def cvec {P : Program} (lv0 : Lv P) (q : Nat → Nat) : Nat → Lv P
 | 0 => lv0
 | i + 1 => .fuel (q i)
def Calm.Inv (P : Program) (j : Nat) (Rd : Nat → Nat → Prop) (Sp : Nat → Prop) (I : World → Prop) (X : Nat → Nat → Prop) (Stop : Goroutine → World → (Nat → Prop) → Prop) (μ : Mu P) (m : Machine) (t : Trace) : Prop :=
 ∃ (gs : Array Goroutine) (w : World) (sl : Option (Nat × Nat)) (q : Nat → Nat) (Own : Nat → Nat → Prop) (lv0 : Lv P) (a : Goroutine),
   m = crowd gs w sl ∧ gs[0]? = some a ∧ I w ∧ Way P true I (Rd 0) Stop (Own 0) lv0 a w ∧ Calm P j gs w t q Own Rd Sp ∧ (∀ k, k ≠ 0 → Own k = X k) ∧ μ = ⟨0, j + 1, cvec lv0 q, 0⟩
def Calm.At (P : Program) (j : Nat) (Rd : Nat → Nat → Prop) (Sp : Nat → Prop) (I : World → Prop) (X : Nat → Nat → Prop) (Stop : Goroutine → World → (Nat → Prop) → Prop) (m : Machine) (t : Trace) : Prop :=
 ∃ (gs : Array Goroutine) (w : World) (sl : Option (Nat × Nat)) (q : Nat → Nat) (Own : Nat → Nat → Prop) (a : Goroutine),
   m = crowd gs w sl ∧ gs[0]? = some a ∧ I w ∧ (∀ w₁, RelyS (Rd 0) (Own 0) w w₁ → I w₁ → Stop a w₁ (Own 0)) ∧ Calm P j gs w t q Own Rd Sp ∧ ∀ k, k ≠ 0 → Own k = X k
section
variable {P : Program} {j : Nat} {Rd : Nat → Nat → Prop} {Sp : Nat → Prop} {I : World → Prop} {X : Nat → Nat → Prop} {Stop : Goroutine → World → (Nat → Prop) → Prop}
theorem Calm.at {gs : Array Goroutine} {w : World} {t : Trace} {q : Nat → Nat} {Own : Nat → Nat → Prop} (h : Calm P j gs w t q Own Rd Sp) (d : Nat) : Calm P j gs (w.at d) t q Own Rd Sp := ⟨h.size, h.lay, h.tr, h.wk, h.rdsub, h.deaf0, h.over⟩
theorem calm_move (hIk : OnSp Sp I) (hR : ∀ g w M, Stop g w M → g.status = .running) {μ : Mu P} {m : Machine} {t : Trace} (h : Calm.Inv P j Rd Sp I X Stop μ m t) :
   (∃ (gs : Array Goroutine) (w : World) (sl sl' : Option (Nat × Nat)) (d : Nat) (q : Nat → Nat) (Own : Nat → Nat → Prop) (a : Goroutine), m = crowd gs w sl ∧ gs[0]? = some a ∧ I w ∧ (∀ w₁, RelyS (Rd 0) (Own 0) w w₁ → I w₁ → Stop a w₁ (Own 0)) ∧ Calm P j gs w t q Own Rd Sp ∧ (∀ k, k ≠ 0 → Own k = X k) ∧ stepT P m = runT P (crowd gs (w.at d) sl') 0) ∨
   ∃ m' ops μ', stepT P m = (.next m', ops) ∧ Mu.lt μ' μ ∧ Calm.Inv P j Rd Sp I X Stop μ' m' (t ++ ops) := by
 obtain ⟨gs, w, sl, q, Own, lv0, a, rfl, ha, hI, hw, hc, hX, rfl⟩ := h
 have hrun := hw.running hI hR
 have haw : ∀ g ∈ gs, awake g := by
   intro g hg
   obtain ⟨i, hi⟩ := Array.mem_iff_getElem?.1 hg
   cases i with
   | zero => rw [ha] at hi; cases hi; exact awake_of (.inl hrun)
   | succ i =>
     have hlt : i < j := by have := (Array.getElem?_eq_some_iff.1 hi).1; rw [hc.size] at this; omega
     obtain ⟨g', hg', hq⟩ := hc.wk i hlt
     rw [hi] at hg'; cases hg'
     exact awake_of (hq.status.elim .inl fun x => .inr (.inr x))
 obtain ⟨i, g, d, sl', hg, hgr, hst⟩ := crowd_pick (P := P) (w := w) (sl := sl) haw ⟨0, a, ha, hrun⟩
 have hcd := hc.at d
 have hId : I (w.at d) := hIk w (w.at d) (fun _ _ => rfl) hI
 cases i with
 | zero =>
   obtain rfl : g = a := by rw [ha] at hg; exact (Option.some.inj hg).symm
   rcases (hw.rely (RelyS.at _ _ w d)).next' hId with hs | ⟨-, g', w', es, lv', e1, e2, e3, e4, e5⟩
   · exact .inl ⟨gs, w, sl, sl', d, q, Own, g, rfl, ha, hI, fun w₁ h₁ => hs w₁ ((rely_at _ _ w d).trans h₁), hc, hX, hst⟩
   · right
     have hrunT := runT_crowd_go (P := P) (sl := sl') (i := 0) ha (by simpa using e1)
     have hlay := hcd.lay.move (k := 0) e2
     have htr : Tr Sp (upd Own 0 (growM (Own 0) (w.at d) w')) Rd j w'.heap.size (t ++ MemOp.ofEvents 0 g.frame.fn g.frame.place es) := by
       have hg0 : Tr Sp (upd Own 0 (growM (Own 0) (w.at d) w')) Rd j w'.heap.size t := by
         refine hcd.tr.grow e2.size (fun i hi b hb => ?_) fun i hi b hb => ?_
         · by_cases e : i = 0
           · subst e; rw [upd_same] at hb; exact hb.imp id And.left
           · rw [upd_ne _ _ e] at hb; exact .inl hb
         · by_cases e : i = 0
           · subst e; rw [upd_same]; exact .inl hb
           · rw [upd_ne _ _ e]; exact hb
       exact hg0.own hlay (by omega) fun e hee => by rw [upd_same]; exact e3 e hee
     refine ⟨_, _, ⟨0, j + 1, cvec lv' q, 0⟩, hst.trans hrunT, .inr (.inl ⟨rfl, rfl, 0, by simp only; omega, e4, fun k hk => ?_⟩), _, w', sl', q, upd Own 0 (growM (Own 0) (w.at d) w'), lv', g', rfl, get_map_set_same _ _ _ (by rw [hc.size]; omega), hIk _ _ (fun b hb => hcd.lay.keeps (k := 0) (by omega) e2 hb) hId, by rw [upd_same]; exact e5, ⟨by simp [hc.size], hlay, htr, fun i hi => ?_, hc.rdsub, by rw [Deaf_own, hc.deaf0]; exact deaf_own e3 0, fun i hi => (hc.over i hi).not fun op hop => by rw [Go.ConcR.g_of_ofEvents op hop]; omega⟩, fun k hk => by rw [upd_ne _ _ hk]; exact hX k hk, rfl⟩
     · cases k with
       | zero => exact absurd rfl hk
       | succ k => rfl
     · obtain ⟨x, hx, hq⟩ := hc.wk i hi
       refine ⟨_, by rw [get_map_set _ _ _ _ (by omega), hx, Option.map_some], ?_⟩
       rw [woken_quitsD hq, Deaf_other t (by omega) _ Go.ConcR.g_of_ofEvents]
       exact hq
 | succ i =>
   right
   have hi : i < j := by have := (Array.getElem?_eq_some_iff.1 hg).1; rw [hc.size] at this; omega
   obtain ⟨g₁, hg₁, hq⟩ := hc.wk i hi
   obtain rfl : g = g₁ := by rw [hg] at hg₁; exact Option.some.inj hg₁
   cases hqi : q i with
   | zero => rw [hqi] at hq; rw [hq.1] at hgr; cases hgr
   | succ n =>
     rw [hqi] at hq
     rcases hq with ⟨hf, _⟩ | ⟨_, g', es, hm, hstp, hq'⟩
     · rw [hf] at hgr; cases hgr
     have hrunT := runT_crowd_go (P := P) (sl := sl') (i := i + 1) hg (by simpa using hstp (w.at d))
     have hno : ∀ op ∈ MemOp.ofEvents (i + 1) g.frame.fn g.frame.place es, op.act.touch? = none ∧ ∀ a, op.act ≠ .mark (.release a) := by
       intro op hop
       rw [ofEvents_eq] at hop
       obtain ⟨e, he, rfl⟩ := Array.mem_map.1 hop
       refine ⟨touch_mute (hm e he), fun a hm' => ?_⟩
       rcases Go.ConcR.bk_of_mute (Wg := 0) (hm e he) with h1 | h1 | ⟨a', x, rfl, _⟩
       · simp only at hm'; rw [Go.ConcR.ofEvent_loc_mark h1] at hm'; cases hm'
       · simp only at hm'; rw [Go.ConcR.ofEvent_loc_mark h1] at hm'; cases hm'
       · simp only at hm'; rw [Go.ConcR.ofEvent_cell] at hm'; cases hm'
     have htr : Tr Sp Own Rd j (w.at d).heap.size (t ++ MemOp.ofEvents (i + 1) g.frame.fn g.frame.place es) :=
       hcd.tr.appW hcd.lay (by omega) (by omega : i + 1 ≤ j) (fun op hop => ⟨Go.ConcR.g_of_ofEvents op hop, fun x hx => by rw [(hno op hop).1] at hx; cases hx⟩) (fun op hop x b hx => by rw [(hno op hop).1] at hx; cases hx) fun op hop => (hno op hop).2
     refine ⟨_, _, ⟨0, j + 1, cvec lv0 (upd q i n), 0⟩, hst.trans hrunT, .inr (.inl ⟨rfl, rfl, i + 1, by simp only; omega, ?_, fun k hk => ?_⟩), _, w.at d, sl', upd q i n, Own, lv0, a, rfl, ?_, hId, hw.rely (RelyS.at _ _ w d), ⟨by simp [hc.size], hcd.lay, htr, fun i' hi' => ?_, hc.rdsub, ?_, fun i' hi' => ?_⟩, hX, rfl⟩
     · simp only [cvec, upd_same, hqi]; exact .fuel (Nat.lt_succ_self _)
     · cases k with
       | zero => rfl
       | succ k => simp only [cvec]; rw [upd_ne _ _ (by omega)]
     · rw [get_map_set _ _ _ _ (by omega), ha, Option.map_some]
       unfold Go.Conc.woken; split
       · rw [again_running _ (.inl hrun)]
       · rfl
     · by_cases e : i' = i
       · subst e
         refine ⟨g', get_map_set_same _ _ _ (by rw [hc.size]; omega), ?_⟩
         rw [upd_same, Deaf_own]; exact hq'
       · obtain ⟨x, hx, hqx⟩ := hc.wk i' hi'
         refine ⟨_, by rw [get_map_set _ _ _ _ (by omega), hx, Option.map_some], ?_⟩
         rw [woken_quitsD hqx, upd_ne _ _ e, Deaf_other t (by omega) _ Go.ConcR.g_of_ofEvents]
         exact hqx
     · rw [Deaf_other t (by omega) _ Go.ConcR.g_of_ofEvents]; exact hc.deaf0
     · by_cases e : i' = i
       · subst e
         refine (hc.over i' hi').app fun b r hr => hr.appOwn _ _ _ fun jx ev hev => .inl (touch_mute (hm ev (Array.mem_of_getElem? hev)))
       · exact (hc.over i' hi').not fun op hop => by rw [Go.ConcR.g_of_ofEvents op hop]; omega
theorem calm_runs (hIk : OnSp Sp I) (hR : ∀ g w M, Stop g w M → g.status = .running) {μ : Mu P} {m : Machine} {t : Trace} (h : Calm.Inv P j Rd Sp I X Stop μ m t) : ∃ n m' t', runNT P n m t = (.next m', t') ∧ Calm.At P j Rd Sp I X Stop m' t' := by
 refine reach_of_inv (Calm.Inv P j Rd Sp I X Stop) (Calm.At P j Rd Sp I X Stop) (fun μ m t h => ?_) μ m t h
 rcases calm_move hIk hR h with ⟨gs, w, sl, sl', d, q, Own, a, rfl, h1, hI, h2, h3, h4, -⟩ | h
 · exact .inl ⟨gs, w, sl, q, Own, a, rfl, h1, hI, h2, h3, h4⟩
 · exact .inr h
def AtEnd' (P : Program) (S : Nat → Prop) (Post : Value → World → Prop) (g : Goroutine) (w : World) (M : Nat → Prop) : Prop :=
 g.status = .running ∧ ∃ v es, stepG P true g w = .ended (.done v) w es ∧ (∀ e ∈ es, EvOk S M e) ∧ Post v w
theorem calm_ends (hIk : OnSp Sp I) {Post : Value → World → Prop} {μ : Mu P} {m : Machine} {t : Trace} (h : Calm.Inv P j Rd Sp I X (AtEnd' P (Rd 0) Post) μ m t) :
   ∃ N last o w' t', runNT P (N + 1) m t = (.ended o w', t') ∧ runN P N m = .next last ∧ step P last = .ended o w' ∧ Go.Conc.Good P Post last o w' t' := by
 refine run_of_inv (mu_wf P) (Calm.Inv P j Rd Sp I X (AtEnd' P (Rd 0) Post)) (Go.Conc.Good P Post) (fun μ m t h => ?_) μ m t h
 rcases calm_move hIk (fun _ _ _ q => q.1) h with ⟨gs, w, sl, sl', d, q, Own, a, rfl, ha, hI, hs, hc, -, hst⟩ | h
 · left
   obtain ⟨-, v, es, hend, hev, hpost⟩ := hs (w.at d) (RelyS.at _ _ w d) (hIk w (w.at d) (fun _ _ => rfl) hI)
   have hrunT := runT_many_ended (P := P) (sl := sl') (i := 0) ha (show stepG P (0 == 0) a (w.at d) = _ from hend)
   have htr := (hc.at d).tr.own hc.lay (k := 0) (by omega) (fn := a.frame.fn) (pos := a.frame.place) hev
   have hov : ∀ i, i < j → Over (t ++ MemOp.ofEvents 0 a.frame.fn a.frame.place es) (i + 1) := fun i hi => (hc.over i hi).not fun op hop => by rw [Go.ConcR.g_of_ofEvents op hop]; omega
   refine ⟨_, _, _, hst.trans hrunT, v, rfl, hpost, htr.ct.nr, over_all htr.norel fun g hg ⟨i, hi⟩ => ?_, ⟨fun x hx => ?_, rfl⟩, fun k x hx hk => ?_⟩
   · obtain ⟨op, ho, rfl⟩ := Option.map_eq_some_iff.1 hi
     have := htr.ct.gs i op ho
     obtain ⟨k, hk⟩ : ∃ k, op.g = k + 1 := ⟨op.g - 1, by omega⟩
     rw [hk]
     exact hov k (by omega)
   · obtain ⟨k, hk⟩ := List.mem_iff_getElem?.1 hx
     rw [List.getElem?_drop] at hk
     have hk' : gs[k + 1]? = some x := by rw [Nat.add_comm]; simpa [crowd] using hk
     have hlt : k < j := by have := (Array.getElem?_eq_some_iff.1 hk').1; rw [hc.size] at this; omega
     obtain ⟨y, hy, hq⟩ := hc.wk k hlt
     rw [hk'] at hy; cases hy
     exact ⟨_, hq.leaves⟩
   · obtain ⟨k, rfl⟩ : ∃ i, k = i + 1 := ⟨k - 1, by omega⟩
     have hx' : gs[k + 1]? = some x := hx
     have hlt : k < j := by have := (Array.getElem?_eq_some_iff.1 hx').1; rw [hc.size] at this; omega
     obtain ⟨y, hy, hq⟩ := hc.wk k hlt
     rw [hx'] at hy; cases hy
     refine ⟨q k, ?_⟩
     have e : (t ++ MemOp.ofEvents 0 a.frame.fn a.frame.place es).deaf (k + 1) (t ++ MemOp.ofEvents 0 a.frame.fn a.frame.place es).size = Deaf t (k + 1) := Deaf_other t (g := k + 1) (g' := 0) (by omega) _ Go.ConcR.g_of_ofEvents
     rw [e]
     exact hq.hears _
 · exact .inr h
end
#print axioms calm_ends
end Go.Proofs.YtajnfkmkombajabDoor
namespace Go.Proofs.YtajnfkmkombajabDoor
open Go Go.Conc Go.ConcN
open Go.ConcR (KK wgBlock WgAt stA smA)
theorem reach_step {P : Program} (Inv : Mu P → Machine → Trace → Prop) (Q : Machine → Trace → Prop)
   (h : ∀ μ m t, Inv μ m t → (∃ m' ops, stepT P m = (.next m', ops) ∧ Q m' (t ++ ops)) ∨ ∃ m' ops μ', stepT P m = (.next m', ops) ∧ Mu.lt μ' μ ∧ Inv μ' m' (t ++ ops)) :
   ∀ μ m t, Inv μ m t → ∃ n m' t', runNT P n m t = (.next m', t') ∧ Q m' t' := by
 intro μ
 induction μ using (mu_wf P).induction with
 | _ μ ih =>
   intro m t hI
   rcases h μ m t hI with ⟨m', ops, hs, hq⟩ | ⟨m', ops, μ', hs, hr, hI'⟩
   · exact ⟨1, m', t ++ ops, by rw [runNT_succ_next hs]; rfl, hq⟩
   · obtain ⟨n, m2, t2, h1, h2⟩ := ih μ' hr m' (t ++ ops) hI'
     exact ⟨n + 1, m2, t2, by rw [runNT_succ_next hs]; exact h1, h2⟩
def AtMake (P : Program) (o : Obj) (Next : Nat → Goroutine → World → (Nat → Prop) → Prop) (g : Goroutine) (w : World) (M : Nat → Prop) : Prop :=
 g.status = .running ∧ ∃ g' w', stepG P true g w = .go g' w' #[] ∧ w'.heap = w.heap.push o ∧ Next w.heap.size g' w' M
section
variable {P : Program} {j : Nat} {Rd : Nat → Nat → Prop} {Sp : Nat → Prop} {I : World → Prop} {X : Nat → Nat → Prop}
theorem push_old {w w' : World} {o : Obj} (h : w'.heap = w.heap.push o) {b : Nat} (hb : b < w.heap.size) : w'.heap[b]? = w.heap[b]? := by
 rw [h, Array.getElem?_push_lt hb, Array.getElem?_eq_getElem hb]
theorem Calm.make {gs : Array Goroutine} {w w' : World} {t : Trace} {q : Nat → Nat} {Own : Nat → Nat → Prop} (h : Calm P j gs w t q Own Rd Sp) {o : Obj} (hp : w'.heap = w.heap.push o) (g g' : Goroutine) : Calm P j ((gs.map (woken P g g' w')).setIfInBounds 0 g') w' t q Own Rd (fun b => Sp b ∨ b = w.heap.size) := by
 have hsz : w'.heap.size = w.heap.size + 1 := by rw [hp]; simp
 have hl := h.lay
 refine ⟨by simp [h.size], ⟨fun b hb => ?_, fun k hk b hb => ?_, fun k hk b hb => ?_, hl.own2, fun k hk b hb hs => ?_, hl.ownRd, fun k hk b hb hs => ?_⟩, ?_, fun i hi => ?_, h.rdsub, h.deaf0, h.over⟩
 · rcases hb with q | q
   · have := hl.spB b q; omega
   · omega
 · have := hl.ownB k hk b hb; omega
 · have := hl.rdB k hk b hb; omega
 · rcases hs with q | q
   · exact hl.ownSp k hk b hb q
   · have := hl.ownB k hk b hb; omega
 · rcases hs with q | q
   · exact hl.rdSp k hk b hb q
   · have := hl.rdB k hk b hb; omega
 · have h1 : Tr Sp Own Rd j w'.heap.size t := h.tr.grow (by omega) (fun k _ b hb => .inl hb) fun k _ b hb => hb
   refine h1.special (fun b hb => .inl hb) fun b hb hn i a ha e => ?_
   have := h.tr.low i a b ha e
   rcases hb with q | q
   · exact hn q
   · omega
 · obtain ⟨x, hx, hq⟩ := h.wk i hi
   exact ⟨_, by rw [get_map_set _ _ _ _ (by omega), hx, Option.map_some], by rw [woken_quitsD hq]; exact hq⟩
theorem calm_make (hIk : OnSp Sp I) {o : Obj} {Next : Nat → Goroutine → World → (Nat → Prop) → Prop} {μ : Mu P} {m : Machine} {t : Trace} (h : Calm.Inv P j Rd Sp I X (AtMake P o Next) μ m t) :
   ∃ n m' t', runNT P n m t = (.next m', t') ∧ ∃ (gs : Array Goroutine) (w : World) (sl : Option (Nat × Nat)) (q : Nat → Nat) (Own : Nat → Nat → Prop) (a : Goroutine) (B : Nat), m' = crowd gs w sl ∧ gs[0]? = some a ∧ Calm P j gs w t' q Own Rd (fun b => Sp b ∨ b = B) ∧ I w ∧ ¬ Sp B ∧ w.heap[B]? = some o ∧ Next B a w (Own 0) ∧ ∀ k, k ≠ 0 → Own k = X k := by
 refine reach_step (Calm.Inv P j Rd Sp I X (AtMake P o Next)) (fun m' t' => ∃ (gs : Array Goroutine) (w : World) (sl : Option (Nat × Nat)) (q : Nat → Nat) (Own : Nat → Nat → Prop) (a : Goroutine) (B : Nat), m' = crowd gs w sl ∧ gs[0]? = some a ∧ Calm P j gs w t' q Own Rd (fun b => Sp b ∨ b = B) ∧ I w ∧ ¬ Sp B ∧ w.heap[B]? = some o ∧ Next B a w (Own 0) ∧ ∀ k, k ≠ 0 → Own k = X k) (fun μ m t h => ?_) μ m t h
 rcases calm_move hIk (fun _ _ _ q => q.1) h with ⟨gs, w, sl, sl', d, q, Own, a, rfl, ha, hI, hs, hc, hX, hst⟩ | h
 · left
   have hId : I (w.at d) := hIk w (w.at d) (fun _ _ => rfl) hI
   obtain ⟨-, g', w', hgo, hp, hnx⟩ := hs (w.at d) (RelyS.at _ _ w d) hId
   have hrunT := runT_crowd_go (P := P) (sl := sl') (i := 0) ha (show stepG P (0 == 0) a (w.at d) = _ from hgo)
   rw [ofEvents_nil] at hrunT
   refine ⟨_, _, hst.trans hrunT, _, w', sl', q, Own, g', w.heap.size, rfl, get_map_set_same _ _ _ (by rw [hc.size]; omega), by rw [Array.append_empty]; exact (hc.at d).make hp a g', hIk _ _ (fun b hb => push_old hp ((hc.at d).lay.spB b hb)) hId, fun q => by have := hc.lay.spB _ q; omega, ?_, hnx, hX⟩
   rw [hp]
   show (w.heap.push o)[w.heap.size]? = some o
   rw [Array.getElem?_push_size]
 · exact .inr h
theorem calm_again {Stop : Goroutine → World → (Nat → Prop) → Prop} {gs : Array Goroutine} {w : World} {sl : Option (Nat × Nat)} {t : Trace} {q : Nat → Nat} {Own : Nat → Nat → Prop} {a : Goroutine} (ha : gs[0]? = some a) (hI : I w) (hc : Calm P j gs w t q Own Rd Sp) (hg : GoesW P true I (Rd 0) Stop a w (Own 0)) :
   ∃ μ, Calm.Inv P j Rd Sp I Own Stop μ (crowd gs w sl) t :=
 ⟨_, gs, w, sl, q, Own, _, a, rfl, ha, hI, Way.new hg, hc, fun _ _ => rfl, rfl⟩
theorem calm_of_done {F : Farm P} {N : Nat} {m : Machine} {t : Trace} (h : F.Done N m t) : ∃ (gs : Array Goroutine) (w : World) (sl : Option (Nat × Nat)) (q : Nat → Nat) (Own Rd : Nat → Nat → Prop) (Sp : Nat → Prop) (a : Goroutine),
   m = crowd gs w sl ∧ gs[0]? = some a ∧ F.Ret (Rd 0) a w (Own 0) ∧ Calm P N gs w t q Own Rd Sp ∧ F.I w := by
 obtain ⟨gs, w, sl, D, Own, Rd, Sp, a, rfl, ha, hr, hc, ho⟩ := h
 refine ⟨gs, w, sl, fun i => match (D i).lv with | .fuel n => n | .on _ => 0, Own, Rd, Sp, a, rfl, ha, hr, ⟨hc.size, hc.lay, hc.tr, fun i hi => ?_, hc.rdsub, hc.deaf0, fun i hi => (ho i hi).2⟩, hc.inv⟩
 obtain ⟨g, hg, hs⟩ := hc.wk i hi
 refine ⟨g, hg, ?_⟩
 have h1 := (ho i hi).1
 have hd := hc.deafW i hi
 rw [hd]
 generalize (D i).st = x1 at *
 generalize (D i).tk = x2 at *
 generalize (D i).df = x3 at *
 generalize (D i).lv = x4 at *
 subst h1
 cases hs with
 | quit h => exact h
theorem farm_of_calm {F : Farm P} {r : Nat} {gs : Array Goroutine} {w : World} {sl : Option (Nat × Nat)} {t : Trace} {q : Nat → Nat} {Own : Nat → Nat → Prop} {a : Goroutine} (ha : gs[0]? = some a) (hc : Calm P j gs w t q Own Rd Sp) (hsp : Sp F.Wg ∧ Sp F.Td ∧ Sp F.Bk)
   (hwg : WgAt F.ty F.Wg w 0 0) (htd : w.heap[F.Td]? = some (.chan 0 #[] false 0 0 false)) (hbk : w.heap[F.Bk]? = some (.chan 0 #[] false 0 0 false)) (hst : F.Starts (r + 1) (Rd 0) a w (Own 0)) : ∃ μ, F.Inv (j + r + 1) μ (crowd gs w sl) t := by
 have hI : F.I w := ⟨⟨_, _, hwg⟩, ⟨_, _, htd⟩, ⟨_, hbk⟩⟩
 let D : Nat → WD' P := fun i => ⟨1, none, Deaf t (i + 1), .fuel (q i)⟩
 have hV : Vs j (stg D) = 0 := by
   have : Vs j (stg D) = sumTo j fun _ => 0 := sumTo_congr fun i _ => rfl
   rw [this, sumTo_nought]
 refine ⟨_, gs, w, sl, j, D, Own, Rd, Sp, fun _ => False, .sp r 6, 0, _, a, 0, 0, false, 0, rfl, ha, .skd (Way.new hst), ⟨hc.size, hI, hc.lay, hsp, hc.tr, fun i hi => ?_, hc.rdsub, hc.deaf0, fun i hi => rfl, fun i hi _ => .inr (hc.over i hi)⟩, hwg, htd, ?_, ⟨fun _ => ⟨rfl, fun i hi => .inr rfl⟩, fun q => absurd trivial q, fun r' s' e => ?_, by simp, by simp, by simp⟩, by simp, rfl⟩
 · obtain ⟨g, hg, hq⟩ := hc.wk i hi
   exact ⟨g, hg, .quit hq⟩
 · have hm : Mode' j (stg D) (.sp r 6) (((Vs j (stg D) + pendT (.sp r 6) : Nat) : Int) * KK) 0 := .opn trivial (fun i hi => .inr rfl) (by simp)
   have e : ((Vs j (stg D) + pendT (.sp r 6) : Nat) : Int) * KK = 0 := by rw [hV]; simp [pendT]
   rw [e] at hm
   exact hm
 · simp at e
   obtain ⟨rfl, rfl⟩ := e
   exact ⟨fun i hi => rfl, fun _ => id, by omega⟩
theorem calm_first {gs : Array Goroutine} {w : World} {a : Goroutine} {S M : Nat → Prop} (hS : ∀ b, S b → b < w.heap.size ∧ ¬ M b) (hM : ∀ b, M b → b < w.heap.size) : Calm P 0 #[a] w #[] (fun _ => 0) (fun k b => k = 0 ∧ M b) (fun k b => k = 0 ∧ S b) (fun _ => False) := by
 have hno : ∀ i x, touchAt (#[] : Trace) i = some x → False := fun i x h => by simp [touchAt, Trace.act?] at h
 refine ⟨rfl, ⟨fun _ q => q.elim, fun k _ b hb => hM b hb.2, fun k _ b hb => (hS b hb.2).1, fun k k' hk hk' hne => by omega, fun _ _ _ _ q => q, fun k k' _ _ b hb hb' => (hS b hb'.2).2 hb.2, fun _ _ _ _ q => q⟩, ⟨?_, fun i x b h => (hno i x h).elim, fun x i => by simp [Trace.act?]⟩, fun i hi => by omega, fun k hk b hb => ⟨rfl, hb.2⟩, rfl, fun i hi => by omega⟩
 exact CT.lone (u := #[]) (by simp) (by simp)
end
end Go.Proofs.YtajnfkmkombajabDoor
namespace Go.Proofs.YtajnfkmkombajabDoor
open Go Go.Conc
structure Veil (p : Prop) : Prop where
 out : p
section
variable {P : Program} {mn : Bool} {I : World → Prop} {S M : Nat → Prop} {Stop : Goroutine → World → (Nat → Prop) → Prop} {b : Frame} {a : Act} {k : List Item} {cs : List Frame} {W : World} {ops : Array Oper} {i : Nat} {rest : List Nat} {o : Oper}
theorem gw_move {g g' : Goroutine} (hs : g.status = .running) (e : ∀ w, stepG P mn g w = .go g' w #[]) (h : GoesW P mn I S Stop g' W M) : GoesW P mn I S Stop g W M :=
 .still fun W1 h1 _ => ⟨hs, by rw [e]; exact ⟨rfl, fun e he => by simp at he, h.rely h1⟩⟩
theorem gw_seq {x y : Code} (h : GoesW P mn I S Stop (G (b.at a (.code x :: .code y :: k)) cs) W M) : GoesW P mn I S Stop (G (b.at a (.code (.seq x y) :: k)) cs) W M := gw_move rfl (fun _ => stepG_seq) h
theorem gw_skip (h : GoesW P mn I S Stop (G (b.at a k) cs) W M) : GoesW P mn I S Stop (G (b.at a (.code .skip :: k)) cs) W M := gw_move rfl (fun _ => stepG_skip) h
theorem gw_label {l : Nat} (h : GoesW P mn I S Stop (G (b.at a k) cs) W M) : GoesW P mn I S Stop (G (b.at a (.code (.label l) :: k)) cs) W M := gw_move rfl (fun _ => stepG_label) h
theorem gw_block {id : Nat} {c : Code} (h : GoesW P mn I S Stop (G (b.at a (.code c :: .inBlock id :: k)) cs) W M) : GoesW P mn I S Stop (G (b.at a (.code (.block id c) :: k)) cs) W M := gw_move rfl (fun _ => stepG_block) h
theorem gw_loop {c : Code} (h : GoesW P mn I S Stop (G (b.at a (.code c :: .inLoop c :: k)) cs) W M) : GoesW P mn I S Stop (G (b.at a (.code (.loop c) :: k)) cs) W M := gw_move rfl (fun _ => stepG_loop) h
theorem gw_inLoop {c : Code} (h : GoesW P mn I S Stop (G (b.at a (.code c :: .inLoop c :: k)) cs) W M) : GoesW P mn I S Stop (G (b.at a (.inLoop c :: k)) cs) W M := gw_move rfl (fun _ => stepG_inLoop) h
theorem gw_inBlock {id : Nat} (h : GoesW P mn I S Stop (G (b.at a k) cs) W M) : GoesW P mn I S Stop (G (b.at a (.inBlock id :: k)) cs) W M := gw_move rfl (fun _ => stepG_inBlock) h
theorem gw_exit {id : Nat} {k' : List Item} (e : exitTo id k = some k') (h : GoesW P mn I S Stop (G (b.at a k') cs) W M) : GoesW P mn I S Stop (G (b.at a (.code (.exit id) :: k)) cs) W M := gw_move rfl (fun _ => stepG_exit e) h
theorem gw_region {id : Nat} (h : GoesW P mn I S Stop (G (b.at a (.inRegion ops (List.range ops.size) :: k)) cs) W M) : GoesW P mn I S Stop (G (b.at a (.code (.region id ops false) :: k)) cs) W M := gw_move rfl (fun _ => stepG_region) h
theorem gw_region_end (h : GoesW P mn I S Stop (G (b.at a k) cs) W M) : GoesW P mn I S Stop (G (b.at a (.inRegion ops [] :: k)) cs) W M := gw_move rfl (fun _ => stepG_region_end) h
theorem gw_end (h : GoesW P mn I S Stop (G { b.at a [] with mode := .returning } cs) W M) : GoesW P mn I S Stop (G (b.at a []) cs) W M := gw_move rfl (fun _ => stepG_end) h
theorem gw_ret (h : GoesW P mn I S Stop (G { b.at a (.code .ret :: k) with mode := .returning } cs) W M) : GoesW P mn I S Stop (G (b.at a (.code .ret :: k)) cs) W M := gw_move rfl (fun _ => stepG_ret') h
theorem gw_yes {c : Operand} {x y : Code} (e : a.eval c = .bool true) (h : GoesW P mn I S Stop (G (b.at a (.code x :: k)) cs) W M) : GoesW P mn I S Stop (G (b.at a (.code (.cond c x y) :: k)) cs) W M := gw_move rfl (fun _ => by rw [stepG_cond e]; rfl) h
theorem gw_no {c : Operand} {x y : Code} (e : a.eval c = .bool false) (h : GoesW P mn I S Stop (G (b.at a (.code y :: k)) cs) W M) : GoesW P mn I S Stop (G (b.at a (.code (.cond c x y) :: k)) cs) W M := gw_move rfl (fun _ => by rw [stepG_cond e]; rfl) h
theorem gw_unwanted (ho : ops[i]? = some o) (hw : Region.wanted o (yielded ops a.tmps) = false) (h : GoesW P mn I S Stop (G (b.at (a.put o.dst undef) (.inRegion ops rest :: k)) cs) W M) : GoesW P mn I S Stop (G (b.at a (.inRegion ops (i :: rest) :: k)) cs) W M := gw_move rfl (fun _ => stepG_unwanted ho hw) h
theorem gw_defer {f : FuncId} {asv : Array Operand} {ats : Array TypeId} (ho : ops[i]? = some o) (hw : Region.wanted o (yielded ops a.tmps) = true) (hk : b.kind ≠ .early)
   (hop : o.op = .defer { callee := .value (.func f), args := asv, argTypes := ats }) (h : GoesW P mn I S Stop (G (b.at (Act.put ⟨a.tmps, dcall f (asv.map a.eval) :: a.defers⟩ o.dst undef) (.inRegion ops rest :: k)) cs) W M) :
   GoesW P mn I S Stop (G (b.at a (.inRegion ops (i :: rest) :: k)) cs) W M := gw_move rfl (fun _ => stepG_defer ho hw hk hop) h
theorem gw_op (ho : ops[i]? = some o) (hw : Region.wanted o (yielded ops a.tmps) = true) (hk : b.kind ≠ .early)
   (h : ∀ W1, RelyS S M W W1 → I W1 → ∀ K : Act → World → Prop, (∀ a', (∀ e ∈ listed P b.fn a o W1, EvOk S M e) → GoesW P mn I S Stop (G (b.at a' (.inRegion ops rest :: k)) cs) W M → K a' W1) → uponK o a K ((execOp a.eval o).run P W1)) :
   GoesW P mn I S Stop (G (b.at a (.inRegion ops (i :: rest) :: k)) cs) W M := by
 refine .still fun W1 h1 i1 => ⟨rfl, goes_oper_k ho hw hk fun K' hK => ?_⟩
 exact h W1 h1 i1 K' fun a' he hg => hK a' W1 ⟨rfl, he, hg.rely h1⟩
theorem gw_call {f : FuncId} {fn : Func} {c : Code} {args : Array Operand} {ats : Array TypeId}
   (ho : ops[i]? = some o) (hw : Region.wanted o (yielded ops a.tmps) = true) (hk : b.kind ≠ .early) (hop : o.op = .call { callee := .value (.func f), args, argTypes := ats })
   (hf : P.funcs[f]? = some fn) (hname : (fn.name == "runtime.NumGoroutine") = false) (hb : fn.body = some c)
   (h : GoesW P mn I S Stop (G ((base f).at { tmps := args.map a.eval ++ Array.replicate (fn.ntmps - (args.map a.eval).size) undef, defers := [] } [.code c]) (b.at a (.inRegion ops (i :: rest) :: k) :: cs)) W M) :
   GoesW P mn I S Stop (G (b.at a (.inRegion ops (i :: rest) :: k)) cs) W M :=
 .still fun W1 h1 _ => ⟨rfl, goes_call ho hw hk hop hf hname hb ⟨rfl, fun e he => by simp at he, h.rely h1⟩⟩
section
variable {b₀ : Frame} {a₀ : Act} {todo : List Item} {fn : Func}
theorem gw_leave0 (hn : b.kind = .normal) (hd : a.defers = []) (hf : P.funcs[b.fn]? = some fn) (hr : fn.results = #[])
   (h : GoesW P mn I S Stop (G (b₀.at (a₀.put ((ops[i]?).bind (·.dst)) (.tuple #[])) (.inRegion ops rest :: k)) cs) W M) :
   GoesW P mn I S Stop (G { b.at a todo with mode := .returning } (b₀.at a₀ (.inRegion ops (i :: rest) :: k) :: cs)) W M :=
 .still fun W1 h1 _ => ⟨rfl, goes_leave0 hn hd hf hr ⟨rfl, fun e he => by simp at he, h.rely h1⟩⟩
theorem gw_leave1 {t : Tmp} (hn : b.kind = .normal) (hd : a.defers = []) (hf : P.funcs[b.fn]? = some fn) (hr : fn.results = #[.tmp t])
   (h : GoesW P mn I S Stop (G (b₀.at (a₀.put ((ops[i]?).bind (·.dst)) (a.tmps.getD t undef)) (.inRegion ops rest :: k)) cs) W M) :
   GoesW P mn I S Stop (G { b.at a todo with mode := .returning } (b₀.at a₀ (.inRegion ops (i :: rest) :: k) :: cs)) W M :=
 .still fun W1 h1 _ => ⟨rfl, goes_leave1 hn hd hf hr ⟨rfl, fun e he => by simp at he, h.rely h1⟩⟩
theorem gw_leave2 {t u : Tmp} (hn : b.kind = .normal) (hd : a.defers = []) (hf : P.funcs[b.fn]? = some fn) (hr : fn.results = #[.tmp t, .tmp u])
   (h : GoesW P mn I S Stop (G (b₀.at (a₀.put ((ops[i]?).bind (·.dst)) (.tuple #[a.tmps.getD t undef, a.tmps.getD u undef])) (.inRegion ops rest :: k)) cs) W M) :
   GoesW P mn I S Stop (G { b.at a todo with mode := .returning } (b₀.at a₀ (.inRegion ops (i :: rest) :: k) :: cs)) W M :=
 .still fun W1 h1 _ => ⟨rfl, goes_leave2 hn hd hf hr ⟨rfl, fun e he => by simp at he, h.rely h1⟩⟩
end
end
end Go.Proofs.YtajnfkmkombajabDoor
