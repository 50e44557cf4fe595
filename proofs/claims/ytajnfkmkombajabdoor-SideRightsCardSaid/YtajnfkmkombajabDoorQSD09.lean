/-
  Goroutines on their way: what follows upon what; the measure of many. No program in sight.
  A communication of one of many goroutines over channels that are open and hold nothing: it waits, or meets one that waits.
  Who knows what: blocks that are one's own, blocks that are read by many, and how they pass from hand to hand.
  What passes from hand to hand at a meeting; a goroutine more; what is handed over at the end.
-/
import Derived.Test.YtajnfkmkombajabDoorQSD08
import Derived.Conc.CrowdSel
import Derived.Laws.Sem
import Derived.Conc.CrowdRun
set_option linter.unusedVariables false
set_option linter.unusedSimpArgs false
namespace Go.Proofs.YtajnfkmkombajabDoor
open Go Go.Conc
section
variable {S M : Nat → Prop} {W W1 W2 : World}
theorem RelyS.refl (S M : Nat → Prop) (W : World) : RelyS S M W W := ⟨rfl, rfl, rfl, Nat.le_refl _, fun _ _ _ => rfl⟩
theorem RelyS.trans (h : RelyS S M W W1) (k : RelyS S M W1 W2) : RelyS S M W W2 :=
 ⟨k.os.trans h.os, k.out.trans h.out, k.tape.trans h.tape, Nat.le_trans h.size k.size, fun B hB hs => by
   have hs' := h.size
   rw [k.keep B (by omega) hs, h.keep B hB hs]⟩
theorem RelyS.mono {S' M' : Nat → Prop} (h : RelyS S M W W1) (hS : ∀ B, S' B ∨ M' B → S B ∨ M B) : RelyS S' M' W W1 := ⟨h.os, h.out, h.tape, h.size, fun B hB hs => h.keep B hB (hS B hs)⟩
theorem RelyS.at (S M : Nat → Prop) (W : World) (d : Nat) : RelyS S M W (W.at d) := ⟨rfl, rfl, rfl, Nat.le_refl _, fun _ _ _ => rfl⟩
theorem growM_still (M : Nat → Prop) (W : World) {W' : World} (h : W'.heap.size = W.heap.size) : growM M W W' = M := funext fun B => propext ⟨fun q => q.elim id fun ⟨a, b⟩ => by omega, .inl⟩
end
section
variable {P : Program} {mn : Bool} {I : World → Prop} {S : Nat → Prop} {Stop Stop' : Goroutine → World → (Nat → Prop) → Prop} {g : Goroutine} {W : World} {M : Nat → Prop}
theorem GoesW.rely (h : GoesW P mn I S Stop g W M) {W1 : World} (hr : RelyS S M W W1) : GoesW P mn I S Stop g W1 M := by
 cases h with
 | stop h => exact .stop fun W2 h2 i2 => h W2 (hr.trans h2) i2
 | step hs h k => exact .step hs (fun W2 h2 i2 => h W2 (hr.trans h2) i2) (fun W2 h2 i2 => k W2 (hr.trans h2) i2)
def GoOn (P : Program) (mn : Bool) (I : World → Prop) (S : Nat → Prop) (Stop : Goroutine → World → (Nat → Prop) → Prop) (g : Goroutine) (W : World) (M : Nat → Prop) : Prop :=
 g.status = .running ∧ ∃ g' W' es, stepG P mn g W = .go g' W' es ∧ Moves M (growM M W W') W W' ∧ (∀ e ∈ es, EvOk S (growM M W W') e) ∧ GoesW P mn I S Stop g' W' (growM M W W')
theorem GoesW.of_on (h : ∀ W1, RelyS S M W W1 → I W1 → GoOn P mn I S Stop g W1 M) : GoesW P mn I S Stop g W M := by
 refine Classical.byCases (p := ∃ W1, RelyS S M W W1 ∧ I W1) (fun ⟨W1, h1, i1⟩ => ?_) (fun hno => .stop fun W1 h1 i1 => absurd ⟨W1, h1, i1⟩ hno)
 refine .step (h W1 h1 i1).1 (fun W2 h2 i2 => ?_) (fun W2 h2 i2 g' W' es hg => ?_)
 · obtain ⟨-, g', W', es, e1, e2, e3, -⟩ := h W2 h2 i2
   exact ⟨g', W', es, e1, e2, e3⟩
 · obtain ⟨-, g2, W3, es2, e1, -, -, e4⟩ := h W2 h2 i2
   rw [e1] at hg
   cases hg
   exact e4
theorem GoesW.bind (h : GoesW P mn I S Stop g W M) (hk : ∀ g W M, Stop g W M → I W → GoOn P mn I S Stop' g W M) : GoesW P mn I S Stop' g W M := by
 induction h with
 | stop h => exact .of_on fun W1 h1 i1 => hk _ _ _ (h W1 h1 i1) i1
 | step hs h _ ih => exact .step hs h ih
theorem GoesW.mono (h : GoesW P mn I S Stop g W M) (hk : ∀ g W M, Stop g W M → I W → Stop' g W M) : GoesW P mn I S Stop' g W M := by
 induction h with
 | stop h => exact .stop fun W1 h1 i1 => hk _ _ _ (h W1 h1 i1) i1
 | step hs h _ ih => exact .step hs h ih
theorem GoesW.halt (h : ∀ W1, RelyS S M W W1 → I W1 → Stop g W1 M) : GoesW P mn I S Stop g W M := .stop h
theorem GoesW.still (h : ∀ W1, RelyS S M W W1 → I W1 → g.status = .running ∧ (stepG P mn g W1).goes fun g' W' es => W' = W1 ∧ (∀ e ∈ es, EvOk S M e) ∧ GoesW P mn I S Stop g' W1 M) : GoesW P mn I S Stop g W M := by
 refine .of_on fun W1 h1 i1 => ?_
 obtain ⟨hs, hg⟩ := h W1 h1 i1
 revert hg
 cases hst : stepG P mn g W1 with
 | go g' W' es =>
   rintro ⟨rfl, he, hk⟩
   refine ⟨hs, g', W', es, hst, ?_, ?_, ?_⟩ <;> rw [growM_still M W' rfl]
   · exact Moves.refl _ _
   · exact he
   · exact hk
 | _ => exact False.elim
end
/-! the measure -/
structure Nd (P : Program) where
 mn : Bool
 I : World → Prop
 S : Nat → Prop
 Stop : Goroutine → World → (Nat → Prop) → Prop
 g : Goroutine
 W : World
 M : Nat → Prop
def Nd.good {P : Program} (x : Nd P) : Prop := GoesW P x.mn x.I x.S x.Stop x.g x.W x.M
def Nd.halts {P : Program} (x : Nd P) : Prop := ∀ W1, RelyS x.S x.M x.W W1 → x.I W1 → x.Stop x.g W1 x.M
def Child {P : Program} (y x : Nd P) : Prop :=
 x.good ∧ ¬ x.halts ∧ ∃ W1 es, RelyS x.S x.M x.W W1 ∧ x.I W1 ∧ stepG P x.mn x.g W1 = .go y.g y.W es ∧ y.M = growM x.M W1 y.W ∧ y.mn = x.mn ∧ y.I = x.I ∧ y.S = x.S ∧ y.Stop = x.Stop
theorem child_acc {P : Program} (x : Nd P) : Acc Child x := by
 by_cases hx : x.good
 · obtain ⟨mn, I, S, Stop, g, W, M⟩ := x
   have key : ∀ g W M, GoesW P mn I S Stop g W M → Acc Child (⟨mn, I, S, Stop, g, W, M⟩ : Nd P) := by
     intro g W M h
     induction h with
     | stop h => exact ⟨_, fun y hy => absurd h hy.2.1⟩
     | step hs h k ih =>
       refine ⟨_, fun y hy => ?_⟩
       obtain ⟨-, -, W1, es, h1, i1, e1, e2, e3, e4, e5, e6⟩ := hy
       obtain ⟨mn', I', S', Stop', g', W', M'⟩ := y
       simp only at e1 e2 e3 e4 e5 e6
       subst e2; subst e3; subst e4; subst e5; subst e6
       exact ih W1 h1 i1 g' W' es e1
   exact key g W M hx
 · exact ⟨_, fun y hy => absurd hy.1 hx⟩
theorem Nd.good.next {P : Program} {x : Nd P} (h : x.good) : x.halts ∨ (x.g.status = .running ∧ ∀ W1, RelyS x.S x.M x.W W1 → x.I W1 → ∃ y es, stepG P x.mn x.g W1 = .go y.g y.W es ∧ Moves x.M y.M W1 y.W ∧ (∀ e ∈ es, EvOk x.S y.M e) ∧ y.good ∧ Child y x ∧ y.M = growM x.M W1 y.W ∧ y.mn = x.mn ∧ y.I = x.I ∧ y.S = x.S ∧ y.Stop = x.Stop) := by
 by_cases hh : x.halts
 · exact .inl hh
 · right
   obtain ⟨mn, I, S, Stop, g, W, M⟩ := x
   cases h with
   | stop h => exact absurd h hh
   | step hs h k =>
     refine ⟨hs, fun W1 h1 i1 => ?_⟩
     obtain ⟨g', W', es, e1, e2, e3⟩ := h W1 h1 i1
     exact ⟨⟨mn, I, S, Stop, g', W', growM M W1 W'⟩, es, e1, e2, e3, k W1 h1 i1 g' W' es e1, ⟨.step hs h k, hh, W1, es, h1, i1, e1, rfl, rfl, rfl, rfl, rfl⟩, rfl, rfl, rfl, rfl, rfl⟩
inductive Lv (P : Program) where
 | on (x : Nd P)
 | fuel (n : Nat)
inductive LvStep {P : Program} : Lv P → Lv P → Prop
 | on {y x : Nd P} (h : Child y x) : LvStep (.on y) (.on x)
 | fuel {m n : Nat} (h : m < n) : LvStep (.fuel m) (.fuel n)
theorem lv_acc {P : Program} (x : Lv P) : Acc LvStep x := by
 cases x with
 | on x =>
   induction child_acc x with
   | intro x _ ih => exact ⟨_, fun y hy => by cases hy with | on h => exact ih _ h⟩
 | fuel n =>
   induction n using Nat.strongRecOn with
   | _ n ih => exact ⟨_, fun y hy => by cases hy with | fuel h => exact ih _ h⟩
def TStep {P : Program} (N : Nat) (v' v : Nat → Lv P) : Prop := ∃ i, i < N ∧ LvStep (v' i) (v i) ∧ ∀ k, k ≠ i → v' k = v k
theorem tstep_acc {P : Program} : ∀ (N : Nat) (v : Nat → Lv P), Acc (TStep N) v
 | 0, v => ⟨_, fun _ ⟨i, hi, _⟩ => absurd hi (Nat.not_lt_zero i)⟩
 | N + 1, v => by
   have key : ∀ x : Lv P, Acc LvStep x → ∀ v, Acc (TStep N) v → v N = x → Acc (TStep (N + 1)) v := by
     intro x hx
     induction hx with
     | intro x _ ihx =>
       intro v hv
       induction hv with
       | intro v _ ihv =>
         intro e
         refine ⟨_, fun v' hv' => ?_⟩
         obtain ⟨i, hi, hc, ho⟩ := hv'
         by_cases hN : i = N
         · subst hN
           exact ihx _ (e ▸ hc) v' (tstep_acc _ v') rfl
         · refine ihv v' ⟨i, by omega, hc, ho⟩ ?_
           rw [ho N (fun q => hN q.symm), e]
   exact key _ (lv_acc _) v (tstep_acc N v) rfl
structure Mu (P : Program) where
 s : Nat
 N : Nat
 v : Nat → Lv P
 f : Nat
def Mu.lt {P : Program} (a b : Mu P) : Prop := a.s < b.s ∨ (a.s = b.s ∧ a.N = b.N ∧ TStep b.N a.v b.v) ∨ (a.s = b.s ∧ a.N = b.N ∧ a.v = b.v ∧ a.f < b.f)
theorem mu_wf (P : Program) : WellFounded (Mu.lt (P := P)) := by
 refine ⟨fun a => ?_⟩
 have key : ∀ s N v f, Acc (Mu.lt (P := P)) ⟨s, N, v, f⟩ := by
   intro s
   induction s using Nat.strongRecOn with
   | _ s ihs =>
     intro N v
     induction tstep_acc N v with
     | intro v _ ihv =>
       intro f
       induction f using Nat.strongRecOn with
       | _ f ihf =>
         refine ⟨_, fun b hb => ?_⟩
         obtain ⟨s', N', v', f'⟩ := b
         rcases hb with h | ⟨h1, h2, h3⟩ | ⟨h1, h2, h3, h4⟩
         · exact ihs s' h N' v' f'
         · simp only at h1 h2 h3
           subst h1; subst h2
           exact ihv v' h3 f'
         · simp only at h1 h2 h3 h4
           subst h1; subst h2; subst h3
           exact ihf f' h4
 exact key _ _ _ _
theorem reach_of_inv {P : Program} (Inv : Mu P → Machine → Trace → Prop) (Q : Machine → Trace → Prop)
   (h : ∀ μ m t, Inv μ m t → Q m t ∨ ∃ m' ops μ', stepT P m = (.next m', ops) ∧ Mu.lt μ' μ ∧ Inv μ' m' (t ++ ops)) :
   ∀ μ m t, Inv μ m t → ∃ n m' t', runNT P n m t = (.next m', t') ∧ Q m' t' := by
 intro μ
 induction μ using (mu_wf P).induction with
 | _ μ ih =>
   intro m t hI
   rcases h μ m t hI with hq | ⟨m', ops, μ', hs, hr, hI'⟩
   · exact ⟨0, m, t, rfl, hq⟩
   · obtain ⟨n, m2, t2, h1, h2⟩ := ih μ' hr m' (t ++ ops) hI'
     exact ⟨n + 1, m2, t2, by rw [runNT_succ_next hs]; exact h1, h2⟩
end Go.Proofs.YtajnfkmkombajabDoor
namespace Go.Proofs.YtajnfkmkombajabDoor
open Go Go.Conc
theorem run_select (P : Program) (w : World) {n : Nat} (h : 0 < n) : ∃ a d, a < n ∧ (choose (.select n)).run P w = .ok a (w.at d) := by
 rw [Go.run_choose]
 by_cases hf : (Question.select n).forced = true
 · rw [if_pos hf]; exact ⟨0, w.drawn, h, rfl⟩
 · rw [if_neg hf]; exact ⟨_, w.drawn + 1, Nat.mod_lt _ h, rfl⟩
theorem run_whom (P : Program) (w : World) (s : String) {n : Nat} (h : 0 < n) : ∃ a d, a < n ∧ (choose (.extern s n)).run P w = .ok a (w.at d) := by
 rw [Go.run_choose]
 by_cases hf : (Question.extern s n).forced = true
 · rw [if_pos hf]; exact ⟨0, w.drawn, h, rfl⟩
 · rw [if_neg hf]
   refine ⟨_, w.drawn + 1, ?_, rfl⟩
   simp only [Question.cut]
   rw [if_neg (by omega)]
   exact Nat.mod_lt _ h
section
variable {P : Program} {gs : Array Goroutine} {w w₁ : World} {sl : Option (Nat × Nat)} {i : Nat} {g g₂ : Goroutine} {es : Array Event} {cases : Array CommCase} {shape : CommShape}
def OpenCase (w : World) (cc : CommCase) : Prop := cc.chan = .chan none ∨ ∃ c s r tm, cc.chan = .chan (some c) ∧ w.heap[c]? = some (.chan 0 #[] false s r tm)
theorem OpenCase.made {cc : CommCase} (h : OpenCase w cc) : illMade w cc = false := by
 rcases h with h | ⟨c, s, r, tm, h, hc⟩ <;> simp [illMade, h]
 simp [hc]
def Met (P : Program) (gs : Array Goroutine) (w₁ : World) (sl : Option (Nat × Nat)) (i : Nat) (g g₂ : Goroutine) (es : Array Event) (cases : Array CommCase) (shape : CommShape) (k : Nat) (cc : CommCase) (c s r : Nat) (tm : Bool) (j hk d : Nat) : Stepped × Array MemOp :=
 match cc.send with
 | some v => (.next (crowd ((finishPartner P (gs.setIfInBounds i ph) j hk v).setIfInBounds i (g₂.finishComm P cases shape k undef false)) ((w₁.at d).setChan c 0 #[] false (s + 1) (r + 1) tm) sl),
     MemOp.ofEvents i g.frame.fn g.frame.place es ++ #[{ g := i, fn := g₂.frame.fn, pos := g₂.frame.place, act := .send c s }, { g := j, fn := ((gs.setIfInBounds i ph).getD j default).frame.fn, pos := ((gs.setIfInBounds i ph).getD j default).frame.place, act := .recv c r 0 },
       { g := i, fn := g₂.frame.fn, pos := g₂.frame.place, act := .sendDone c s }, { g := j, fn := ((gs.setIfInBounds i ph).getD j default).frame.fn, pos := ((gs.setIfInBounds i ph).getD j default).frame.place, act := .recvDone c r }])
 | none => (.next (crowd ((finishPartner P (gs.setIfInBounds i ph) j hk undef).setIfInBounds i (g₂.finishComm P cases shape k (offeredValue (gs.setIfInBounds i ph) j hk) true)) ((w₁.at d).setChan c 0 #[] false (s + 1) (r + 1) tm) sl),
     MemOp.ofEvents i g.frame.fn g.frame.place es ++ #[{ g := j, fn := ((gs.setIfInBounds i ph).getD j default).frame.fn, pos := ((gs.setIfInBounds i ph).getD j default).frame.place, act := .send c s }, { g := i, fn := g₂.frame.fn, pos := g₂.frame.place, act := .recv c r 0 },
       { g := j, fn := ((gs.setIfInBounds i ph).getD j default).frame.fn, pos := ((gs.setIfInBounds i ph).getD j default).frame.place, act := .sendDone c s }, { g := i, fn := g₂.frame.fn, pos := g₂.frame.place, act := .recvDone c r }])
theorem ways_open {gs' : Array Goroutine} {cc : CommCase} {c s r : Nat} {tm : Bool} (hcc : cc.chan = .chan (some c)) (hc : w₁.heap[c]? = some (.chan 0 #[] false s r tm)) :
   ways w₁ gs' cc = (partners gs' c cc.send.isNone).map fun (h, k) => Way.partner h k := by
 unfold ways
 rw [hcc]
 simp only [hc]
 cases hs : cc.send with
 | some v =>
   simp only [Bool.false_eq_true, if_false, Option.isNone_some]
   cases partners gs' c false <;> simp
 | none =>
   simp only [Bool.false_eq_true, if_false, Option.isNone_none, Array.size_empty, Nat.lt_irrefl, gt_iff_lt]
   cases partners gs' c true <;> simp
theorem meet_or_park (hi : gs[i]? = some g) (h : stepG P (i == 0) g w = .comm g₂ cases true shape w₁ es) (hc : ∀ cc ∈ cases, OpenCase w₁ cc) :
   ((∀ cc ∈ cases, ∀ c, cc.chan = .chan (some c) → partners (gs.setIfInBounds i ph) c cc.send.isNone = []) ∧
     runT P (crowd gs w sl) i = (.next (crowd (gs.setIfInBounds i (parked g₂ cases shape)) w₁ sl), MemOp.ofEvents i g.frame.fn g.frame.place es)) ∨
   ∃ k cc c s r tm j hk d, cases[k]? = some cc ∧ cc.chan = .chan (some c) ∧ w₁.heap[c]? = some (.chan 0 #[] false s r tm) ∧ (j, hk) ∈ partners (gs.setIfInBounds i ph) c cc.send.isNone ∧
     runT P (crowd gs w sl) i = Met P gs w₁ sl i g g₂ es cases shape k cc c s r tm j hk d := by
 by_cases hno : ∀ cc ∈ cases, ∀ c, cc.chan = .chan (some c) → partners (gs.setIfInBounds i ph) c cc.send.isNone = []
 · refine .inl ⟨hno, crowd_waits hi h fun cc hcc => ⟨(hc cc hcc).made, ?_⟩⟩
   rcases hc cc hcc with q | ⟨c, s, r, tm, q, hq⟩
   · simp [ways, q]
   · rw [ways_open q hq, hno cc hcc c q]; rfl
 · right
   have hmade : cases.any (illMade w₁) = false := any_ill fun cc hcc => (hc cc hcc).made
   generalize hready : ((cases.zipIdx.toList.map fun (c, k) => (k, c, ways w₁ (gs.setIfInBounds i ph) c)).filter fun (_, _, ws) => !ws.isEmpty) = ready
   have hmem : ∀ k cc ws, (k, cc, ws) ∈ ready → cases[k]? = some cc ∧ ws = ways w₁ (gs.setIfInBounds i ph) cc ∧ ws ≠ [] := by
     intro k cc ws hm
     rw [← hready, List.mem_filter] at hm
     obtain ⟨hm, hne⟩ := hm
     simp only [List.mem_map, Prod.mk.injEq, Prod.exists] at hm
     obtain ⟨c', k', hm', rfl, rfl, rfl⟩ := hm
     refine ⟨?_, rfl, fun q => by simp [q] at hne⟩
     have := Array.mem_zipIdx_iff_getElem?.1 (Array.mem_toList_iff.1 hm')
     simpa using this
   have hne : ready ≠ [] := by
     intro q
     refine hno fun cc hcc c q' => ?_
     obtain ⟨k, hk⟩ := Array.mem_iff_getElem?.1 hcc
     rcases hc cc hcc with q2 | ⟨c2, s, r, tm, q2, hq⟩
     · rw [q2] at q'; cases q'
     · obtain rfl : c2 = c := by rw [q2] at q'; cases q'; rfl
       have : (k, cc, ways w₁ (gs.setIfInBounds i ph) cc) ∉ ready := by rw [q]; simp
       rw [← hready, List.mem_filter] at this
       simp only [List.mem_map, Prod.mk.injEq, Prod.exists, not_and] at this
       have h2 := this ⟨cc, k, Array.mem_toList_iff.2 (Array.mem_zipIdx_iff_getElem?.2 (by simpa using hk)), rfl, rfl, rfl⟩
       rw [ways_open q2 hq] at h2
       simpa using h2
   have hlen : 0 < ready.length := List.length_pos_iff.2 hne
   obtain ⟨a, d1, ha, hr1⟩ := run_select P w₁ hlen
   obtain ⟨⟨k, cc, ws⟩, hka⟩ : ∃ p, ready[a]? = some p := ⟨ready[a], List.getElem?_eq_getElem ha⟩
   obtain ⟨hk, hws, hwne⟩ := hmem k cc ws (List.mem_of_getElem? hka)
   obtain ⟨b, d2, hb, hr2⟩ := run_whom P (w₁.at d1) "which waiting goroutine is the partner" (List.length_pos_iff.2 hwne)
   rcases hc cc (Array.mem_of_getElem? hk) with q | ⟨c, s, r, tm, q, hq⟩
   · exact absurd (by rw [hws]; simp [ways, q]) hwne
   rw [ways_open q hq] at hws
   obtain ⟨⟨j, hk'⟩, hjk⟩ : ∃ p, (partners (gs.setIfInBounds i ph) c cc.send.isNone)[b]? = some p := by
     have : b < (partners (gs.setIfInBounds i ph) c cc.send.isNone).length := by rw [hws, List.length_map] at hb; exact hb
     exact ⟨_, List.getElem?_eq_getElem this⟩
   refine ⟨k, cc, c, s, r, tm, j, hk', d2, hk, q, hq, List.mem_of_getElem? hjk, ?_⟩
   have hgd : ready.getD a (0, default, []) = (k, cc, ws) := by simp [List.getD, hka]
   have hgw : ws.getD b .closed = .partner j hk' := by rw [hws]; exact getD_map_partner _ b (j, hk') hjk
   have hpick : (do
       let a ← choose (.select ready.length)
       let (k, c, ws) := ready.getD a (0, default, [])
       let b ← choose (.extern "which waiting goroutine is the partner" ws.length)
       pure (k, c, ws.getD b .closed) : Sem (Nat × CommCase × Way)).run P w₁ = .ok (k, cc, .partner j hk') (w₁.at d2) := by
     rw [Sem.run_bind, hr1]
     simp only [Result.andThen, hgd]
     rw [Sem.run_bind, hr2]
     simp only [Result.andThen, hgw, Sem.run_pure]
     rfl
   have hrE : ready.isEmpty = false := by
     cases hh : ready with
     | nil => exact absurd hh hne
     | cons _ _ => rfl
   rw [runT_crowd_comm hi h]
   unfold communicate
   simp only [hready, hrE, Bool.false_eq_true, if_false]
   rw [if_neg]
   · rw [hpick]
     simp only [q]
     have hq' : (w₁.at d2).heap[c]? = some (.chan 0 #[] false s r tm) := hq
     simp only [hq']
     unfold Met
     cases cc.send <;> rfl
   · rw [Bool.not_eq_true]; exact hmade
end
end Go.Proofs.YtajnfkmkombajabDoor
namespace Go.Proofs.YtajnfkmkombajabDoor
open Go Go.Conc Go.ConcN
def blk : Loc → Option Nat
 | .cell a => some a.block
 | .obj r => some r
 | _ => none
def OnB (X : Nat → Prop) (l : Loc) : Prop := ∃ b, blk l = some b ∧ X b
theorem OnB.of {X : Nat → Prop} {l : Loc} {b : Nat} (h : OnB X l) (e : blk l = some b) : X b := by
 obtain ⟨b', e', hx⟩ := h
 rw [e] at e'; cases e'; exact hx
theorem OnB.mono {X Y : Nat → Prop} {l : Loc} (h : OnB X l) (hs : ∀ b, X b → Y b) : OnB Y l := let ⟨b, e, hx⟩ := h; ⟨b, e, hs b hx⟩
structure Lay (Sp : Nat → Prop) (Own Rd : Nat → Nat → Prop) (j B : Nat) : Prop where
 spB : ∀ b, Sp b → b < B
 ownB : ∀ k, k ≤ j → ∀ b, Own k b → b < B
 rdB : ∀ k, k ≤ j → ∀ b, Rd k b → b < B
 own2 : ∀ k k', k ≤ j → k' ≤ j → k ≠ k' → ∀ b, Own k b → ¬ Own k' b
 ownSp : ∀ k, k ≤ j → ∀ b, Own k b → ¬ Sp b
 ownRd : ∀ k k', k ≤ j → k' ≤ j → ∀ b, Own k b → ¬ Rd k' b
 rdSp : ∀ k, k ≤ j → ∀ b, Rd k b → ¬ Sp b
def cut (j : Nat) (X : Nat → Nat → Prop) (k : Nat) (l : Loc) : Prop := 1 ≤ k ∧ k ≤ j ∧ OnB (X k) l
theorem Lay.apart {Sp : Nat → Prop} {Own Rd : Nat → Nat → Prop} {j B : Nat} (h : Lay Sp Own Rd j B) : Apart (OnB Sp) (cut j Own) (cut j Rd) := by
 refine ⟨fun k k' l h1 h2 => ?_, fun k k' l h1 h2 => ?_, fun k l h1 h2 => ?_, fun k l h1 h2 => ?_⟩
 · obtain ⟨-, hk, b, e, hb⟩ := h1
   obtain ⟨-, hk', h2⟩ := h2
   exact Classical.byContradiction fun hne => h.own2 k k' hk hk' hne b hb (h2.of e)
 · obtain ⟨-, hk, b, e, hb⟩ := h1
   obtain ⟨-, hk', h2⟩ := h2
   exact h.ownRd k k' hk hk' b hb (h2.of e)
 · obtain ⟨-, hk, b, e, hb⟩ := h1
   exact h.ownSp k hk b hb (h2.of e)
 · obtain ⟨-, hk, b, e, hb⟩ := h1
   exact h.rdSp k hk b hb (h2.of e)
structure Tr (Sp : Nat → Prop) (Own Rd : Nat → Nat → Prop) (j B : Nat) (t : Trace) : Prop where
 ct : CT (OnB Sp) (cut j Own) (cut j Rd) t j
 low : ∀ i a b, touchAt t i = some a → blk a.loc = some b → b < B
 norel : ∀ a, NoRelease a t
section
variable {Sp : Nat → Prop} {Own Own' Rd Rd' : Nat → Nat → Prop} {j B B' : Nat} {t u : Trace}
theorem CT.congr {Sh Sh' : Loc → Prop} {O O' R R' : Nat → Loc → Prop} (h : CT Sh O R t j) (hs : ∀ l, Sh l ↔ Sh' l) (ho : ∀ k, 1 ≤ k → k ≤ j → ∀ l, O k l ↔ O' k l) (hr : ∀ k, 1 ≤ k → k ≤ j → ∀ l, R k l ↔ R' k l) : CT Sh' O' R' t j := by
 refine ⟨fun i op x h1 h2 h3 => h.quiet i op x h1 h2 ((hs _).2 h3), fun k k1 kj l hl => h.own k k1 kj l ((ho k k1 kj l).2 hl), fun k k1 kj l hl => h.rd k k1 kj l ((hr k k1 kj l).2 hl), fun l hl hf => h.free l (fun q => hl ((hs l).1 q)) fun k k1 kj => ⟨fun q => (hf k k1 kj).1 ((ho k k1 kj l).1 q), fun q => (hf k k1 kj).2 ((hr k k1 kj l).1 q)⟩,
   fun l hl hf => h.mine l (fun q => hl ((hs l).1 q)) fun k k1 kj q => hf k k1 kj ((ho k k1 kj l).1 q), h.nr, h.gs⟩
theorem Tr.grow (h : Tr Sp Own Rd j B t) (hB : B ≤ B') (ho : ∀ k, k ≤ j → ∀ b, Own' k b → Own k b ∨ B ≤ b) (hs : ∀ k, k ≤ j → ∀ b, Own k b → Own' k b) : Tr Sp Own' Rd j B' t := by
 refine ⟨⟨h.ct.quiet, fun k k1 kj l hl i a ha e => ?_, h.ct.rd, fun l hl hf => h.ct.free l hl fun k k1 kj => ⟨fun q => (hf k k1 kj).1 ⟨q.1, q.2.1, q.2.2.mono (hs k kj)⟩, (hf k k1 kj).2⟩, fun l hl hf => h.ct.mine l hl fun k k1 kj q => hf k k1 kj ⟨q.1, q.2.1, q.2.2.mono (hs k kj)⟩, h.ct.nr, h.ct.gs⟩, fun i a b ha hb => Nat.lt_of_lt_of_le (h.low i a b ha hb) hB, h.norel⟩
 obtain ⟨-, -, b, e', hb⟩ := hl
 rcases ho k kj b hb with q | q
 · exact h.ct.own k k1 kj l ⟨k1, kj, b, e', q⟩ i a ha e
 · have := h.low i a b ha (by rw [e]; exact e')
   omega
theorem touchAt_app {i : Nat} {a : Touch} (ha : touchAt (t ++ u) i = some a) : touchAt t i = some a ∨ ∃ op ∈ u, op.act.touch? = some a := by
 obtain ⟨x, hx, hxa⟩ := touch_of ha
 rcases getElem?_append_cases hx with ⟨_, hx'⟩ | ⟨_, hxu⟩
 · exact .inl (by rw [touchAt_of hx']; exact hxa)
 · exact .inr ⟨x, hxu, hxa⟩
theorem Tr.app0 (hL : Lay Sp Own Rd j B) (h : Tr Sp Own Rd j B t) (hu : ∀ op ∈ u, Ok0 (OnB Sp) (cut j Own) (cut j Rd) j op) (hl : ∀ op ∈ u, ∀ a b, op.act.touch? = some a → blk a.loc = some b → b < B) (hr : ∀ op ∈ u, ∀ a, op.act ≠ .mark (.release a)) : Tr Sp Own Rd j B (t ++ u) :=
 ⟨h.ct.app0 hL.apart hu, fun i a b ha hb => (touchAt_app ha).elim (fun q => h.low i a b q hb) (fun ⟨op, hop, q⟩ => hl op hop a b q hb), fun a => (h.norel a).app fun op hop => hr op hop a⟩
theorem Tr.appW (hL : Lay Sp Own Rd j B) (h : Tr Sp Own Rd j B t) {k : Nat} (k1 : 1 ≤ k) (kj : k ≤ j) (hu : ∀ op ∈ u, OkW (OnB Sp) (cut j Own) (cut j Rd) k op) (hl : ∀ op ∈ u, ∀ a b, op.act.touch? = some a → blk a.loc = some b → b < B) (hr : ∀ op ∈ u, ∀ a, op.act ≠ .mark (.release a)) : Tr Sp Own Rd j B (t ++ u) :=
 ⟨h.ct.appW hL.apart k1 kj hu, fun i a b ha hb => (touchAt_app ha).elim (fun q => h.low i a b q hb) (fun ⟨op, hop, q⟩ => hl op hop a b q hb), fun a => (h.norel a).app fun op hop => hr op hop a⟩
end
/-! one's own events -/
section
variable {Sp : Nat → Prop} {Own Rd : Nat → Nat → Prop} {j B : Nat} {t : Trace}
theorem evOk_touch {S M : Nat → Prop} {e : Event} (h : EvOk S M e) {a : Touch} (ha : (MemAct.ofEvent e).touch? = some a) : a.kind = .plain ∧ ∃ b, blk a.loc = some b ∧ (S b ∨ M b) ∧ (a.write = true → M b) := by
 obtain ⟨loc, wr, sy⟩ := e
 unfold EvOk at h
 cases loc with
 | cell A =>
   obtain ⟨rfl, h⟩ := h
   simp only [MemAct.ofEvent, MemAct.touch?, Option.some.injEq] at ha
   subst ha
   refine ⟨rfl, A.block, rfl, ?_, fun q => ?_⟩
   · revert h; cases wr <;> simp
     exact fun q => .inr q
   · simp only at q; subst q; simpa using h
 | obj R =>
   obtain ⟨rfl, h⟩ := h
   simp only [MemAct.ofEvent, MemAct.touch?, Option.some.injEq] at ha
   subst ha
   refine ⟨rfl, R, rfl, ?_, fun q => ?_⟩
   · revert h; cases wr <;> simp
     exact fun q => .inr q
   · simp only at q; subst q; simpa using h
 | mark m => cases m <;> simp_all [idleMark, MemAct.ofEvent, MemAct.touch?]
 | _ => exact h.elim
theorem evOk_mark {S M : Nat → Prop} {e : Event} (h : EvOk S M e) {m : Mark} (hm : MemAct.ofEvent e = .mark m) : idleMark m = true := by
 obtain ⟨loc, wr, sy⟩ := e
 unfold EvOk at h
 cases loc with
 | mark m' => simp only [MemAct.ofEvent, MemAct.mark.injEq] at hm; subst hm; exact h
 | cell A => simp [MemAct.ofEvent] at hm
 | obj R => obtain ⟨rfl, h⟩ := h; simp [MemAct.ofEvent] at hm
 | _ => exact h.elim
theorem evOk_loc {S M : Nat → Prop} {e : Event} (h : EvOk S M e) {m : Mark} (hm : e.loc = .mark m) : idleMark m = true := by
 unfold EvOk at h
 rw [hm] at h
 exact h
theorem Tr.own (hL : Lay Sp Own Rd j B) (h : Tr Sp Own Rd j B t) {k : Nat} (kj : k ≤ j) {fn : FuncId} {pos : String} {es : Array Event} (he : ∀ e ∈ es, EvOk (Rd k) (Own k) e) : Tr Sp Own Rd j B (t ++ MemOp.ofEvents k fn pos es) := by
 have hmem : ∀ op ∈ MemOp.ofEvents k fn pos es, ∃ e ∈ es, op = { g := k, fn, pos, act := .ofEvent e } := by
   intro op hop
   rw [ofEvents_eq] at hop
   obtain ⟨e, he, rfl⟩ := Array.mem_map.1 hop
   exact ⟨e, he, rfl⟩
 have hlow : ∀ op ∈ MemOp.ofEvents k fn pos es, ∀ a b, op.act.touch? = some a → blk a.loc = some b → b < B := by
   intro op hop a b ha hb
   obtain ⟨e, hee, rfl⟩ := hmem op hop
   obtain ⟨-, b', hb', hq, -⟩ := evOk_touch (he e hee) ha
   rw [hb] at hb'; cases hb'
   exact hq.elim (hL.rdB k kj b) (hL.ownB k kj b)
 have hrel : ∀ op ∈ MemOp.ofEvents k fn pos es, ∀ a, op.act ≠ .mark (.release a) := by
   intro op hop a hm
   obtain ⟨e, hee, rfl⟩ := hmem op hop
   have := evOk_mark (he e hee) hm
   cases this
 rcases Nat.eq_zero_or_pos k with rfl | k1
 · refine h.app0 hL (fun op hop => ?_) hlow hrel
   obtain ⟨e, hee, rfl⟩ := hmem op hop
   refine ⟨rfl, fun x hx => .inr ?_⟩
   obtain ⟨-, b, hb, hq, hw⟩ := evOk_touch (he e hee) hx
   refine ⟨fun q => ?_, fun k k1 kj' q => ?_, fun q k k1 kj' q' => ?_⟩
   · exact hq.elim (fun z => hL.rdSp 0 kj b z (q.of hb)) (fun z => hL.ownSp 0 kj b z (q.of hb))
   · have q := q.2.2.of hb
     exact hq.elim (fun z => hL.ownRd k 0 kj' kj b q z) (fun z => hL.own2 0 k kj kj' (by omega) b z q)
   · exact hL.ownRd 0 k kj kj' b (hw q) (q'.2.2.of hb)
 · refine h.appW hL k1 kj (fun op hop => ?_) hlow hrel
   obtain ⟨e, hee, rfl⟩ := hmem op hop
   refine ⟨rfl, fun x hx => .inr ?_⟩
   obtain ⟨-, b, hb, hq, hw⟩ := evOk_touch (he e hee) hx
   cases hwr : x.write with
   | true => exact .inl ⟨k1, kj, b, hb, hw hwr⟩
   | false => exact hq.elim (fun z => .inr ⟨⟨k1, kj, b, hb, z⟩, rfl⟩) (fun z => .inl ⟨k1, kj, b, hb, z⟩)
theorem deaf_own {S M : Nat → Prop} {es : Array Event} (he : ∀ e ∈ es, EvOk S M e) (d : Nat) : deafBehind d es = d := by
 have key : ∀ (l : List Event), (∀ e ∈ l, EvOk S M e) → l.foldl (fun d e => match e.loc with | .mark .disable => d + 1 | .mark .enable => d - 1 | _ => d) d = d := by
   intro l
   induction l with
   | nil => intro _; rfl
   | cons e l ih =>
     intro h
     have : (match e.loc with | .mark .disable => d + 1 | .mark .enable => d - 1 | _ => d) = d := by
       split
       · rename_i q; have := evOk_loc (h e (by simp)) q; cases this
       · rename_i q; have := evOk_loc (h e (by simp)) q; cases this
       · rfl
     rw [List.foldl_cons, this]
     exact ih fun e he => h e (by simp [he])
 unfold deafBehind
 rw [← Array.foldl_toList]
 exact key _ fun e hm => he e (by simpa using hm)
end
end Go.Proofs.YtajnfkmkombajabDoor
namespace Go.Proofs.YtajnfkmkombajabDoor
open Go Go.Conc Go.ConcN
section
variable {Sp : Nat → Prop} {Own Own' Rd Rd' : Nat → Nat → Prop} {j B B' : Nat} {t u : Trace}
def Mutes (j : Nat) (u : Trace) : Prop := ∀ op ∈ u, op.act.touch? = none ∧ op.g ≤ j ∧ ∀ m, op.act ≠ .mark m
theorem touchAt_mutes (hu : Mutes j u) {i : Nat} {a : Touch} (ha : touchAt (t ++ u) i = some a) : touchAt t i = some a :=
 (touchAt_app ha).elim id fun ⟨op, hop, q⟩ => by rw [(hu op hop).1] at q; cases q
theorem noRace_mutes {said : Bool} (h : ¬ Race said t) (hu : Mutes j u) : ¬ Race said (t ++ u) := by
 have key : ∀ (l : List MemOp) (t : Trace), ¬ Race said t → (∀ op ∈ l, op.act.touch? = none) → ¬ Race said (t ++ l.toArray) := by
   intro l
   induction l with
   | nil => intro t h _; simpa using h
   | cons x l ih =>
     intro t h hl
     have e : t ++ (x :: l).toArray = (t ++ #[x]) ++ l.toArray := by apply Array.ext'; simp
     rw [e]
     refine ih _ (noRace_append (g := x.g) h (fun op hop => by simp at hop; rw [hop]) fun i a _ op hop b hb => ?_) fun op hop => hl op (by simp [hop])
     simp at hop
     rw [hop, hl x (by simp)] at hb
     cases hb
 have := key u.toList t h fun op hop => (hu op (by simpa using hop)).1
 simpa using this
theorem CT.mutes {Sh : Loc → Prop} {O R : Nat → Loc → Prop} (h : CT Sh O R t j) (hu : Mutes j u) : CT Sh O R (t ++ u) j := by
 have no : ∀ op ∈ u, ∀ b, op.act.touch? = some b → False := fun op hop b hb => by rw [(hu op hop).1] at hb; cases hb
 refine ⟨h.quiet.app fun op hop b hb _ => (no op hop b hb).elim, fun k k1 kj l hl => (h.own k k1 kj l hl).app fun op hop b hb _ => (no op hop b hb).elim, fun k k1 kj l hl => (h.rd k k1 kj l hl).app fun op hop b hb _ _ => (no op hop b hb).elim,
   fun l hs hf => (h.free l hs hf).app fun op hop b hb _ => (no op hop b hb).elim, fun l hs hf => (h.mine l hs hf).app fun op hop b hb _ _ => (no op hop b hb).elim, fun said => noRace_mutes (h.nr said) hu, fun i op hi => ?_⟩
 rcases getElem?_append_cases hi with ⟨_, hi'⟩ | ⟨_, hiu⟩
 · exact h.gs i op hi'
 · exact (hu op hiu).2.1
theorem Tr.mutes (h : Tr Sp Own Rd j B t) (hu : Mutes j u) : Tr Sp Own Rd j B (t ++ u) :=
 ⟨CT.mutes h.ct hu, fun i a b ha hb => h.low i a b (touchAt_mutes hu ha) hb, fun a => (h.norel a).app fun op hop => (hu op hop).2.2 _⟩
theorem deaf_mutes (hu : Mutes j u) (g : Nat) : ∀ i, t.size ≤ i → i ≤ (t ++ u).size → (t ++ u).deaf g i = Deaf t g := by
 intro i
 induction i with
 | zero =>
   intro h1 h2
   have : t.size = 0 := by omega
   unfold Deaf
   rw [this]
   rfl
 | succ i ih =>
   intro h1 h2
   rcases Nat.lt_or_ge i t.size with q | q
   · have e : i + 1 = t.size := by omega
     rw [e, deaf_old (Nat.le_refl _)]
     rfl
   · have hlt : i < (t ++ u).size := by omega
     obtain ⟨y, hy⟩ : ∃ y, (t ++ u)[i]? = some y := ⟨_, Array.getElem?_eq_getElem hlt⟩
     rw [deaf_succ hy, ih q (by omega)]
     rcases getElem?_append_cases hy with ⟨q', _⟩ | ⟨_, hyu⟩
     · omega
     · have hm := (hu y hyu).2.2
       unfold deafStep
       split
       · exact absurd ‹_› (hm _)
       · exact absurd ‹_› (hm _)
       · rfl
theorem Deaf_mutes (hu : Mutes j u) (g : Nat) : Deaf (t ++ u) g = Deaf t g := by
 unfold Deaf
 exact deaf_mutes hu g _ (by simp) (Nat.le_refl _)
theorem give_knows (hu : Mutes j u) {k g c s p q : Nat} {x y : MemOp} (hp : u[p]? = some x) (hx : x.g = k ∧ x.act = .send c s) (hq : u[q]? = some y) (hy : y.g = g ∧ y.act = .recvDone c s) (dk : Deaf t k = 0) (dg : Deaf t g = 0) {i : Nat} (h : Knows t k i) : Knows (t ++ u) g i := by
 have hp' : (t ++ u)[t.size + p]? = some x := by rw [Array.getElem?_append_right (by omega), Nat.add_sub_cancel_left]; exact hp
 have hq' : (t ++ u)[t.size + q]? = some y := by rw [Array.getElem?_append_right (by omega), Nat.add_sub_cancel_left]; exact hq
 have lp := lt_size_of_getElem? hp'
 have lq := lt_size_of_getElem? hq'
 have e1 : HappensBefore (t ++ u) i (t.size + p) := h.hb_new (by omega) hp' hx.1
 refine ⟨t.size + q, y, hq', hy.1, .inr (e1.trans (.single (.inr ⟨.handOver (c := c) (k := s) (by rw [act?_of hp', hx.2]) (by rw [act?_of hq', hy.2]), ⟨k, by simp [Trace.g?, hp', hx.1], by rw [deaf_mutes hu k _ (by omega) (by omega)]; exact dk⟩, ⟨g, by simp [Trace.g?, hq', hy.1], by rw [deaf_mutes hu g _ (by omega) (by omega)]; exact dg⟩⟩)))⟩
theorem Tr.hand (h : Tr Sp Own Rd j B t) (hu : Mutes j u) {k : Nat} (hL : Lay Sp Own Rd j B) (k1 : 1 ≤ k) (kj : k ≤ j) (hk : ∀ i, Knows t k i → Knows (t ++ u) 0 i) (ho : ∀ k', 1 ≤ k' → k' ≤ j → k' ≠ k → ∀ b, Own' k' b ↔ Own k' b) (hs : ∀ b, ¬ Own' k b) : Tr Sp Own' Rd j B (t ++ u) := by
 have h' := h.mutes hu
 refine ⟨⟨h'.ct.quiet, fun k' k1' kj' l hl => ?_, h'.ct.rd, fun l hs' hf => ?_, fun l hs' hf => ?_, h'.ct.nr, h'.ct.gs⟩, h'.low, h'.norel⟩
 · obtain ⟨-, -, b, e, hb⟩ := hl
   by_cases hkk : k' = k
   · subst hkk; exact absurd hb (hs b)
   · exact h'.ct.own k' k1' kj' l ⟨k1', kj', b, e, (ho k' k1' kj' hkk b).1 hb⟩
 · by_cases hl : OnB (Own k) l
   · intro i a ha hla
     exact hk i (h.ct.own k k1 kj l ⟨k1, kj, hl⟩ i a (touchAt_mutes hu ha) hla)
   · refine h'.ct.free l hs' fun k' k1' kj' => ⟨fun q => ?_, (hf k' k1' kj').2⟩
     obtain ⟨-, -, b, e, hb⟩ := q
     by_cases hkk : k' = k
     · subst hkk; exact hl ⟨b, e, hb⟩
     · exact (hf k' k1' kj').1 ⟨k1', kj', b, e, (ho k' k1' kj' hkk b).2 hb⟩
 · by_cases hl : OnB (Own k) l
   · intro i a ha hla _
     exact hk i (h.ct.own k k1 kj l ⟨k1, kj, hl⟩ i a (touchAt_mutes hu ha) hla)
   · refine h'.ct.mine l hs' fun k' k1' kj' q => ?_
     obtain ⟨-, -, b, e, hb⟩ := q
     by_cases hkk : k' = k
     · subst hkk; exact hl ⟨b, e, hb⟩
     · exact hf k' k1' kj' ⟨k1', kj', b, e, (ho k' k1' kj' hkk b).2 hb⟩
theorem Tr.congr (h : Tr Sp Own Rd j B t) (ho : ∀ k, 1 ≤ k → k ≤ j → ∀ b, Own k b ↔ Own' k b) (hr : ∀ k, 1 ≤ k → k ≤ j → ∀ b, Rd k b ↔ Rd' k b) : Tr Sp Own' Rd' j B t := by
 refine ⟨CT.congr h.ct (fun _ => Iff.rfl) (fun k k1 kj l => ?_) (fun k k1 kj l => ?_), h.low, h.norel⟩
 · exact ⟨fun q => ⟨q.1, q.2.1, q.2.2.mono fun b => (ho k k1 kj b).1⟩, fun q => ⟨q.1, q.2.1, q.2.2.mono fun b => (ho k k1 kj b).2⟩⟩
 · exact ⟨fun q => ⟨q.1, q.2.1, q.2.2.mono fun b => (hr k k1 kj b).1⟩, fun q => ⟨q.1, q.2.1, q.2.2.mono fun b => (hr k k1 kj b).2⟩⟩
theorem Tr.special (h : Tr Sp Own Rd j B t) {Sp' : Nat → Prop} (hs : ∀ b, Sp b → Sp' b) (hn : ∀ b, Sp' b → ¬ Sp b → ∀ i a, touchAt t i = some a → blk a.loc ≠ some b) : Tr Sp' Own Rd j B t := by
 refine ⟨⟨fun i op x hi hx hs' => ?_, h.ct.own, h.ct.rd, fun l hl hf => h.ct.free l (fun q => hl (q.mono hs)) hf, fun l hl hf => h.ct.mine l (fun q => hl (q.mono hs)) hf, h.ct.nr, h.ct.gs⟩, h.low, h.norel⟩
 obtain ⟨b, e, hb⟩ := hs'
 by_cases q : Sp b
 · exact h.ct.quiet i op x hi hx ⟨b, e, q⟩
 · exact absurd e (hn b hb q i x (by rw [touchAt_of hi]; exact hx))
theorem Tr.fork (h : Tr Sp Own Rd j B t) (hL : Lay Sp Own Rd (j + 1) B) {x y : MemOp} (hx : x.g = 0 ∧ x.act = .go (j + 1)) (hy : y.g = j + 1 ∧ y.act = .start) (h0 : Deaf t 0 = 0) : Tr Sp Own Rd (j + 1) B (t ++ #[x, y]) := by
 have hc : CT (OnB Sp) (cut (j + 1) Own) (cut (j + 1) Rd) t j := CT.congr h.ct (fun _ => Iff.rfl) (fun k k1 kj l => ⟨fun q => ⟨q.1, by omega, q.2.2⟩, fun q => ⟨q.1, kj, q.2.2⟩⟩) (fun k k1 kj l => ⟨fun q => ⟨q.1, by omega, q.2.2⟩, fun q => ⟨q.1, kj, q.2.2⟩⟩)
 have hno : ∀ op ∈ #[x, y], op.act.touch? = none := by
   intro op hop
   simp only [List.mem_toArray, List.mem_cons, List.not_mem_nil, or_false] at hop
   rcases hop with rfl | rfl
   · rw [hx.2]; rfl
   · rw [hy.2]; rfl
 refine ⟨hc.fork hL.apart hx hy h0, fun i a b ha hb => ?_, fun a => (h.norel a).app fun op hop => ?_⟩
 · rcases touchAt_app ha with q | ⟨op, hop, q⟩
   · exact h.low i a b q hb
   · rw [hno op hop] at q; cases q
 · simp only [List.mem_toArray, List.mem_cons, List.not_mem_nil, or_false] at hop
   rcases hop with rfl | rfl
   · rw [hx.2]; simp
   · rw [hy.2]; simp
end
/-! what is handed over -/
def Over (t : Trace) (g : Nat) : Prop := ∃ a r q, RelBy a t g r ∧ r < q ∧ t.act? q = some (.mark (.acquire a)) ∧ t.g? q = some 0 ∧ t.heard q
theorem over_all {t : Trace} (hn : ∀ a, NoRelease a t) (h : ∀ g, g ≠ 0 → (∃ i, t.g? i = some g) → Over t g) : t.HandedOver := by
 intro i g hgi hne hc
 obtain ⟨a, r, q, hr, hrq, hq, hg, hh⟩ := h g hne ⟨i, hgi⟩
 have edge : HappensBefore t r q := .single (.inr ⟨.marked hrq (.inr hr.act) hq (fun k _ _ => hn a k), hr.heard, hh⟩)
 have hle : i ≤ r := Nat.le_of_not_lt fun hlt => hr.after i hlt hgi hc
 rcases Nat.lt_or_ge i r with hlt | hge
 · exact ⟨q, hg, .trans (.single (.inl ⟨hlt, g, hgi, hr.g⟩)) edge⟩
 · obtain rfl : i = r := by omega
   exact ⟨q, hg, edge⟩
theorem Over.app {t u : Trace} {g : Nat} (h : Over t g) (hu : ∀ a r, RelBy a t g r → RelBy a (t ++ u) g r) : Over (t ++ u) g := by
 obtain ⟨a, r, q, hr, hrq, hq, hg, hh⟩ := h
 have lq := lt_of_act? hq
 exact ⟨a, r, q, hu a r hr, hrq, by rw [act?_old lq]; exact hq, by rw [g?_old lq]; exact hg, (heard_old lq).2 hh⟩
theorem Over.not {t u : Trace} {g : Nat} (h : Over t g) (hu : ∀ op ∈ u, op.g ≠ g) : Over (t ++ u) g := h.app fun _ _ hr => hr.appNot hu
end Go.Proofs.YtajnfkmkombajabDoor
