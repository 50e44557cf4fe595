/-
  The company: every step of the caller but communications, go statements and the close.
  The company: what a meeting of caller and worker leaves.
  The company: caller and workers meet.
-/
import Derived.Test.YtajnfkmkombajabDoorQSD11
set_option linter.unusedVariables false
set_option linter.unusedSimpArgs false
namespace Go.Proofs.YtajnfkmkombajabDoor
open Go Go.Conc Go.ConcN
open Go.ConcR (KK wgBlock WgAt stA smA Bk rd wr)
section
variable {Sp : Nat → Prop} {Own Rd : Nat → Nat → Prop} {j Wg B : Nat} {t : Trace}
theorem Tr.book0 (h : Tr Sp Own Rd j B t) (hL : Lay Sp Own Rd j B) (hs : Sp Wg) {fn : FuncId} {pos : String} {es : Array Event} (he : ∀ e ∈ es, Bk Wg e ∨ e = Go.ConcR.mk (.acquire (stA Wg)) ∨ e = Go.ConcR.mk (.read (smA Wg)) ∨ e = Go.ConcR.mk (.write (smA Wg))) : Tr Sp Own Rd j B (t ++ MemOp.ofEvents 0 fn pos es) := by
 have key : ∀ op ∈ MemOp.ofEvents 0 fn pos es, ∃ e ∈ es, op = { g := 0, fn, pos, act := .ofEvent e } := by
   intro op hop
   rw [ofEvents_eq] at hop
   obtain ⟨e, he, rfl⟩ := Array.mem_map.1 hop
   exact ⟨e, he, rfl⟩
 have tch : ∀ e ∈ es, ∀ x, (MemAct.ofEvent e).touch? = some x → blk x.loc = some Wg ∧ x.kind ≠ .plain := by
   intro e hee x hx
   rcases he e hee with (h1 | h1 | ⟨a, wr, rfl, ha⟩) | rfl | rfl | rfl
   · rw [Go.ConcR.ofEvent_loc_mark h1] at hx; cases hx
   · rw [Go.ConcR.ofEvent_loc_mark h1] at hx; cases hx
   · rw [Go.ConcR.ofEvent_cell] at hx
     simp only [MemAct.touch?, Option.some.injEq] at hx
     subst hx
     exact ⟨by simp [blk, ha], by simp⟩
   · rw [Go.ConcR.ofEvent_mk] at hx; cases hx
   · rw [Go.ConcR.ofEvent_mk] at hx; cases hx; exact ⟨rfl, by simp⟩
   · rw [Go.ConcR.ofEvent_mk] at hx; cases hx; exact ⟨rfl, by simp⟩
 refine h.app0 hL (fun op hop => ?_) (fun op hop a b ha hb => ?_) fun op hop a hm => ?_
 · obtain ⟨e, hee, rfl⟩ := key op hop
   refine ⟨rfl, fun x hx => .inl ?_⟩
   obtain ⟨q1, q2⟩ := tch e hee x hx
   exact ⟨⟨Wg, q1, hs⟩, q2⟩
 · obtain ⟨e, hee, rfl⟩ := key op hop
   obtain ⟨q1, q2⟩ := tch e hee a ha
   rw [hb] at q1; cases q1
   exact hL.spB _ hs
 · obtain ⟨e, hee, rfl⟩ := key op hop
   rcases he e hee with (h1 | h1 | ⟨a', wr, rfl, ha'⟩) | rfl | rfl | rfl
   · simp only at hm; rw [Go.ConcR.ofEvent_loc_mark h1] at hm; cases hm
   · simp only at hm; rw [Go.ConcR.ofEvent_loc_mark h1] at hm; cases hm
   · simp only at hm; rw [Go.ConcR.ofEvent_cell] at hm; cases hm
   · simp only at hm; rw [Go.ConcR.ofEvent_mk] at hm; cases hm
   · simp only at hm; rw [Go.ConcR.ofEvent_mk] at hm; cases hm
   · simp only at hm; rw [Go.ConcR.ofEvent_mk] at hm; cases hm
end
theorem Mu.lt_of_lt {P : Program} {a b c : Mu P} (h : Mu.lt a b) (k : b.s < c.s) : Mu.lt a c := by
 left
 rcases h with h | ⟨h, -⟩ | ⟨h, -⟩ <;> omega
section
variable {P : Program} {F : Farm P} {N j : Nat} {D : Nat → WD' P} {tag tag' : CT'} {got : Nat → Prop} {cl : Bool}
theorem Farm.Phase.sp {r x : Nat} (h : F.Phase N j D (.sp r x) got cl) (y : Nat) : F.Phase N j D (.sp r y) got cl :=
 ⟨fun _ => h.pre trivial, fun q => absurd trivial q, fun r' s' e => by cases e; exact h.idle _ _ rfl, fun q => absurd rfl (q r y), fun nx rd q => by simp at q, fun nx rd q => by cases q⟩
theorem Farm.Phase.past (h : F.Phase N j D tag got cl) (h1 : ¬ earlyT tag) (h2 : ¬ earlyT tag') : F.Phase N j D tag' got cl :=
 ⟨fun q => absurd q h2, fun _ => h.post h1, fun r s e => absurd (by rw [e]; trivial) h2, fun _ => h.full fun r s e => h1 (by rw [e]; trivial), fun nx rd e => absurd (by rcases e with e | e <;> rw [e] <;> trivial) h2, fun nx rd e => absurd (by rw [e]; trivial) h2⟩
end
theorem Mode'.openT {j : Nat} {s : Nat → Nat} {tag tag' : CT'} {st sm : Int} (h : Mode' j s tag st sm) (h1 : openT tag) (h2 : openT tag') (hp : pendT tag' = pendT tag) (h3 : ∀ vs, tag' = .w2 vs → Vs j s ≤ vs ∧ 1 ≤ vs) : Mode' j s tag' st sm := by
 cases h with
 | opn _ q _ => rw [← hp]; exact .opn h2 q h3
 | reg q _ _ => cases tag <;> first | exact q.elim | exact h1.elim
 | last _ q _ _ _ => cases tag <;> first | exact q.elim | exact h1.elim
 | sema q _ => cases tag <;> first | exact q.elim | exact h1.elim
 | fin q _ => cases tag <;> first | exact q.elim | exact h1.elim
theorem Mode'.at_open {j : Nat} {s : Nat → Nat} {tag : CT'} {st sm : Int} (h : Mode' j s tag st sm) (h1 : Go.Proofs.YtajnfkmkombajabDoor.openT tag) : OpenS j s ∧ st = ((Vs j s + pendT tag : Nat) : Int) * KK ∧ sm = 0 := by
 cases h with
 | opn _ q _ => exact ⟨q, rfl, rfl⟩
 | reg q _ _ => cases tag <;> first | exact q.elim | exact h1.elim
 | last _ q _ _ _ => cases tag <;> first | exact q.elim | exact h1.elim
 | sema q _ => cases tag <;> first | exact q.elim | exact h1.elim
 | fin q _ => cases tag <;> first | exact q.elim | exact h1.elim
theorem all_one {j : Nat} {s : Nat → Nat} (h : OpenS j s) (hv : Vs j s = 0) : AllOne j s := fun i hi => by
 have h1 : cntS (s i) ≤ sumTo j (fun x => cntS (s x)) := le_sumTo (f := fun x => cntS (s x)) hi
 simp only [Vs] at hv
 rcases h i hi with q | q
 · have : cntS (s i) = 1 := by simp [cntS, q]
   omega
 · exact q
section
variable {P : Program} {F : Farm P} {N j : Nat} {gs : Array Goroutine} {w : World} {sl : Option (Nat × Nat)} {t : Trace} {D : Nat → WD' P} {Own Rd : Nat → Nat → Prop} {Sp got : Nat → Prop} {tag : CT'} {d0 : Nat} {lv0 : Lv P} {a : Goroutine} {st sm : Int} {cl : Bool} {s : Nat}
set_option maxHeartbeats 1000000 in
theorem callerOwn (L : F.Law) (hn : N < 2147483648) (ha : gs[0]? = some a) (hcs : F.CSit (Rd 0) (Own 0) got tag d0 lv0 a w) (hcom : F.Com j gs w t D Own Rd Sp d0) (hwg : WgAt F.ty F.Wg w st sm) (htd : w.heap[F.Td]? = some (.chan 0 #[] cl s s false))
   (hmode : Mode' j (stg D) tag st sm) (hph : F.Phase N j D tag got cl) (hpd : j + pendT tag ≤ N) (hacq : tag = .ret → ∀ i, i < j → Over t (i + 1)) (hrun : a.status = .running) :
   Went F N gs w sl t ⟨wt N F.many (Vs j (stg D)) tag + sumTo j (stg D), j + 1, vec lv0 D, flT tag⟩ 0 ∨
   (∃ r, tag = .sp r 2 ∧ d0 = 0 ∧ F.GoS (F.Starts r) (Rd 0) a w (Own 0)) ∨
   (∃ nx rd, tag = .sel nx rd ∧ d0 = 0 ∧ F.Turn (Rd 0) nx rd got a w (Own 0)) ∨
   (tag = .ret ∧ d0 = 0 ∧ ∀ w₁, RelyS (Rd 0) (Own 0) w w₁ → F.I w₁ → F.Ret (Rd 0) a w₁ (Own 0)) := by
 have hI := hcom.inv
 have hVj := Vs_le j (stg D)
 -- a way goes on
 have way : ∀ {g' : Goroutine} {w' : World} {es : Array Event} {lv' : Lv P}, stepG P true a w = .go g' w' es → Moves (Own 0) (growM (Own 0) w w') w w' → (∀ e ∈ es, EvOk (Rd 0) (growM (Own 0) w w') e) → LvStep lv' lv0 →
     F.CSit (Rd 0) (growM (Own 0) w w') got tag d0 lv' g' w' → Went F N gs w sl t ⟨wt N F.many (Vs j (stg D)) tag + sumTo j (stg D), j + 1, vec lv0 D, flT tag⟩ 0 := by
   intro g' w' es lv' hgo hmv hev hlv hs'
   obtain ⟨q1, q2, q3, q4, q5, q6, q7⟩ := hcom.moved (t := t) (fn := a.frame.fn) (pos := a.frame.place) (by omega) hmv hev
   have htd' : w'.heap[F.Td]? = some (.chan 0 #[] cl s s false) := q7.trans htd
   exact callerGo L ha hcom hgo q2 q1 q5 q3 q4 (hph.still htd') (by rw [upd_same, deaf_own hev]; exact hs') (hwg.of_block q6) htd' hmode hph
     (fun e i hi => (hacq e i hi).not fun op hop => by rw [Go.ConcR.g_of_ofEvents op hop]; omega) (.inr ⟨rfl, .inl hlv⟩)
 -- a step of the library's bookkeeping
 have book : ∀ {tg tag' : CT'} {l l' : Lv P} {g' : Goroutine} {w' : World} {es : Array Event} {st' sm' : Int}, stepG P true a w = .go g' w' es → Aside F.Wg w w' → WgAt F.ty F.Wg w' st' sm' → (∀ e ∈ es, Bk F.Wg e ∨ e = Go.ConcR.mk (.acquire (stA F.Wg)) ∨ e = Go.ConcR.mk (.read (smA F.Wg)) ∨ e = Go.ConcR.mk (.write (smA F.Wg))) →
     F.CSit (Rd 0) (Own 0) got tag' (deafBehind d0 es) l' g' w' → Mode' j (stg D) tag' st' sm' → F.Phase N j D tag' got cl → (tag' = .ret → ∀ i', i' < j → Over (t ++ MemOp.ofEvents 0 a.frame.fn a.frame.place es) (i' + 1)) →
     (wt N F.many (Vs j (stg D)) tag' < wt N F.many (Vs j (stg D)) tg ∨ (wt N F.many (Vs j (stg D)) tag' = wt N F.many (Vs j (stg D)) tg ∧ (LvStep l' l ∨ (l' = l ∧ flT tag' < flT tg)))) →
     Went F N gs w sl t ⟨wt N F.many (Vs j (stg D)) tg + sumTo j (stg D), j + 1, vec l D, flT tg⟩ 0 := by
   intro tg tag' l l' g' w' es st' sm' hgo hAs hwg' hbk hs' hmode' hph' hacq' hlt
   have hsp : Spec Sp w w' := ⟨hAs.os, hAs.output, hAs.tape, hAs.size, fun b hb => hAs.block b fun q => hb (q ▸ hcom.spc.1)⟩
   have e2 := hAs.block F.Td L.blocks.1.symm
   have e3 := hAs.block F.Bk L.blocks.2.1.symm
   have hI' : F.I w' := ⟨⟨_, _, hwg'⟩, ⟨cl, s, e2.trans htd⟩, let ⟨s', q⟩ := hI.2.2; ⟨s', e3.trans q⟩⟩
   have htd' : w'.heap[F.Td]? = some (.chan 0 #[] cl s s false) := e2.trans htd
   have hlay : Lay Sp Own Rd j w'.heap.size := by rw [hAs.size]; exact hcom.lay
   have htr : Tr Sp Own Rd j w'.heap.size (t ++ MemOp.ofEvents 0 a.frame.fn a.frame.place es) := by rw [hAs.size]; exact hcom.tr.book0 hcom.lay hcom.spc.1 hbk
   exact callerGo (tag := tg) (lv0 := l) L ha hcom hgo (fun k hk _ => hcom.turned hsp k hk) hI' (fun _ _ => rfl) hlay htr (hph.still htd') hs' hwg' htd' hmode' hph' hacq' hlt
 have rel0 : ∀ {w' : World}, Aside F.Wg w w' → RelyS (Rd 0) (Own 0) w w' := fun hAs => hcom.turned ⟨hAs.os, hAs.output, hAs.tape, hAs.size, fun b hb => hAs.block b fun q => hb (q ▸ hcom.spc.1)⟩ 0 (by omega)
 have bkm : ∀ (m : Mark), (m = .disable ∨ m = .enable) → ∀ e ∈ #[Go.ConcR.mk m], Bk F.Wg e ∨ e = Go.ConcR.mk (.acquire (stA F.Wg)) ∨ e = Go.ConcR.mk (.read (smA F.Wg)) ∨ e = Go.ConcR.mk (.write (smA F.Wg)) := by
   intro m hm e he
   simp at he; subst he
   rcases hm with rfl | rfl
   · exact .inl (.inl rfl)
   · exact .inl (.inr (.inl rfl))
 have bkr : ∀ e ∈ #[rd (stA F.Wg)], Bk F.Wg e ∨ e = Go.ConcR.mk (.acquire (stA F.Wg)) ∨ e = Go.ConcR.mk (.read (smA F.Wg)) ∨ e = Go.ConcR.mk (.write (smA F.Wg)) := by intro e he; simp at he; subst he; exact .inl (bk_cell' _ _ rfl)
 have bkw : ∀ e ∈ #[rd (stA F.Wg), wr (stA F.Wg)], Bk F.Wg e ∨ e = Go.ConcR.mk (.acquire (stA F.Wg)) ∨ e = Go.ConcR.mk (.read (smA F.Wg)) ∨ e = Go.ConcR.mk (.write (smA F.Wg)) := by intro e he; simp at he; rcases he with rfl | rfl <;> exact .inl (bk_cell' _ _ rfl)
 have bks : ∀ e ∈ semEvents (smA F.Wg), Bk F.Wg e ∨ e = Go.ConcR.mk (.acquire (stA F.Wg)) ∨ e = Go.ConcR.mk (.read (smA F.Wg)) ∨ e = Go.ConcR.mk (.write (smA F.Wg)) := by
   intro e he
   simp [semEvents] at he
   rcases he with rfl | rfl | rfl | rfl
   · exact .inl (.inl rfl)
   · exact .inl (bk_cell' _ _ rfl)
   · exact .inl (bk_cell' _ _ rfl)
   · exact .inl (.inr (.inl rfl))
 -- the load at the head of Wait's loop
 have w1 : ∀ {l : Lv P}, Way P true F.I (Rd 0) (F.W1 (Rd 0)) (Own 0) l a w → d0 = 1 → openT tag → pendT tag = 0 → ¬ earlyT tag → (tag = .w1 → l = lv0) → (tag = .w1 ∨ wt N F.many (Vs j (stg D)) .w1 < wt N F.many (Vs j (stg D)) tag) → Went F N gs w sl t ⟨wt N F.many (Vs j (stg D)) tag + sumTo j (stg D), j + 1, vec lv0 D, flT tag⟩ 0 := by
   intro l h hd ho hp he hl hw
   obtain ⟨hop, e1, e2⟩ := hmode.at_open ho
   rw [hp, Nat.add_zero] at e1
   have fin : Went F N gs w sl t ⟨wt N F.many (Vs j (stg D)) .w1 + sumTo j (stg D), j + 1, vec l D, flT .w1⟩ 0 → Went F N gs w sl t ⟨wt N F.many (Vs j (stg D)) tag + sumTo j (stg D), j + 1, vec lv0 D, flT tag⟩ 0 := by
     intro hq
     rcases hw with rfl | hw
     · rw [hl rfl] at hq; exact hq
     · obtain ⟨m₁, ops, μ', r1, r2, r3⟩ := hq
       exact ⟨m₁, ops, μ', r1, Mu.lt_of_lt r2 (by simp only; omega), r3⟩
   refine fin ?_
   rcases h.next hI with ⟨-, q⟩ | ⟨-, g', w', es, lv', f1, f2, f3, f4, f5⟩
   · obtain ⟨g', hgo, hz, hnz⟩ := q (Vs j (stg D)) (by omega) (by rw [e1, e2] at hwg; exact hwg)
     by_cases hv : Vs j (stg D) = 0
     · refine book (tag' := .ke) hgo (.refl F.Wg w) hwg bkr (by rw [hd]; exact .ke (Way.new (hz hv))) ?_ (hph.past he (by simp [earlyT])) (by simp) (.inl (by simp [wt]))
       rw [e1, e2, hv]
       simpa using Mode'.fin (tag := .ke) trivial (all_one hop hv)
     · exact book (tag' := .w2 (Vs j (stg D))) hgo (.refl F.Wg w) hwg bkr (by rw [hd]; exact .w2 (Way.new (hnz hv))) (hmode.openT ho trivial (by rw [hp]; rfl) (fun vs e => by cases e; exact ⟨Nat.le_refl _, by omega⟩)) (hph.past he (by simp [earlyT])) (by simp) (.inl (by simp [wt]))
   · obtain ⟨q1, q2, q3, q4, q5, q6, q7⟩ := hcom.moved (t := t) (fn := a.frame.fn) (pos := a.frame.place) (by omega) f2 f3
     have htd' : w'.heap[F.Td]? = some (.chan 0 #[] cl s s false) := q7.trans htd
     exact callerGo (tag' := .w1) L ha hcom f1 q2 q1 q5 q3 q4 (hph.still htd') (by rw [upd_same, deaf_own f3, hd]; exact .w1 f5) (hwg.of_block q6) htd' (hmode.openT ho trivial (by rw [hp]; rfl) (by simp)) (hph.past he (by simp [earlyT])) (by simp) (.inr ⟨rfl, .inl f4⟩)
 cases hcs with
 | skd h =>
   left
   rename_i r
   rcases h.next hI with ⟨-, g', hgo, hk⟩ | ⟨-, g', w', es, lv', e1, e2, e3, e4, e5⟩
   · exact book hgo (.refl F.Wg w) hwg (bkm _ (.inl rfl)) (.sa1 (Way.new hk)) (hmode.openT trivial trivial rfl (by simp)) (hph.sp 5) (by simp) (.inl (by simp [wt]))
   · exact way e1 e2 e3 e4 (.skd e5)
 | sa1 h =>
   left
   rename_i r
   rcases h.next hI with ⟨-, q⟩ | ⟨-, g', w', es, lv', e1, e2, e3, e4, e5⟩
   · obtain ⟨hop, e1, e2⟩ := hmode.at_open trivial
     have hjr := (hph.idle _ _ rfl).2.2
     obtain ⟨g', hgo, hk⟩ := q (Vs j (stg D)) (by omega) (by rw [e1, e2] at hwg; simpa [pendT] using hwg)
     refine book hgo (aside_setCell w (stA F.Wg) _) (hwg.setSt _) bkw (.ssd (Way.new hk)) ?_ (hph.sp 4) (by simp) (.inl (by simp [wt]))
     rw [e2]
     have : (((Vs j (stg D) : Nat) : Int) + 1) * KK = ((Vs j (stg D) + pendT (.sp r 4) : Nat) : Int) * KK := by simp [pendT]
     rw [this]
     exact .opn trivial hop (by simp)
   · exact way e1 e2 e3 e4 (.sa1 e5)
 | ssd h =>
   left
   rename_i r
   rcases h.next hI with (⟨-, g', hgo, hk⟩ | ⟨-, g', hgo, hk⟩) | ⟨-, g', w', es, lv', e1, e2, e3, e4, e5⟩
   · exact book hgo (.refl F.Wg w) hwg (by intro e he; simp at he; subst he; exact .inr (.inr (.inl rfl))) (.ske (Way.new hk)) (hmode.openT trivial trivial rfl (by simp)) (hph.sp 3) (by simp) (.inl (by simp [wt]))
   · exact book hgo (.refl F.Wg w) hwg (bkm _ (.inr rfl)) (.sgo (Way.new hk)) (hmode.openT trivial trivial rfl (by simp)) (hph.sp 2) (by simp) (.inl (by simp [wt]))
   · exact way e1 e2 e3 e4 (.ssd e5)
 | ske h =>
   left
   rename_i r
   rcases h.next hI with ⟨-, g', hgo, hk⟩ | ⟨-, g', w', es, lv', e1, e2, e3, e4, e5⟩
   · exact book hgo (.refl F.Wg w) hwg (bkm _ (.inr rfl)) (.sgo (Way.new hk)) (hmode.openT trivial trivial rfl (by simp)) (hph.sp 2) (by simp) (.inl (by simp [wt]))
   · exact way e1 e2 e3 e4 (.ske e5)
 | sgo h =>
   rename_i r
   rcases h.next hI with q | ⟨-, g', w', es, lv', e1, e2, e3, e4, e5⟩
   · exact .inr (.inl ⟨r, rfl, rfl, q⟩)
   · exact .inl (way e1 e2 e3 e4 (.sgo e5))
 | sel h =>
   rename_i nx rd
   rcases h.next hI with q | ⟨-, g', w', es, lv', e1, e2, e3, e4, e5⟩
   · exact .inr (.inr (.inl ⟨nx, rd, rfl, rfl, q⟩))
   · exact .inl (way e1 e2 e3 e4 (.sel e5))
 | selp h1 h => cases hrun
 | kd h =>
   left
   rcases h.next hI with ⟨-, g', hgo, hk⟩ | ⟨-, g', w', es, lv', e1, e2, e3, e4, e5⟩
   · have hf := hph.full (by simp)
     exact book hgo (.refl F.Wg w) hwg (bkm _ (.inl rfl)) (.anch (Way.new hk)) (hmode.openT trivial trivial rfl (by simp)) (hph.past (by simp [earlyT]) (by simp [earlyT])) (by simp) (.inl (by simp [wt]; omega))
   · exact way e1 e2 e3 e4 (.kd e5)
 | anch h =>
   left
   rcases h.next hI with q | ⟨-, g', w', es, lv', e1, e2, e3, e4, e5⟩
   · exact w1 (Way.new (L.anch _ _ _ _ q hI)) rfl trivial rfl (by simp [earlyT]) (by simp) (.inr (by simp [wt]))
   · exact way e1 e2 e3 e4 (.anch e5)
 | w1 h => exact .inl (w1 h rfl trivial rfl (by simp [earlyT]) (fun _ => rfl) (.inl rfl))
 | w2 h =>
   left
   rename_i vs
   rcases h.next hI with ⟨-, q⟩ | ⟨-, g', w', es, lv', e1, e2, e3, e4, e5⟩
   · obtain ⟨hop, e1, e2⟩ := hmode.at_open trivial
     have hvs : Vs j (stg D) ≤ vs ∧ 1 ≤ vs := by
       cases hmode with
       | opn _ _ h3 => exact h3 vs rfl
       | reg q _ _ => exact q.elim
       | last _ q _ _ _ => exact q.elim
       | sema q _ => exact q.elim
       | fin q _ => exact q.elim
     obtain ⟨q1, q2⟩ := q (Vs j (stg D)) (by omega) (by rw [e1, e2] at hwg; simpa [pendT] using hwg)
     by_cases hv : Vs j (stg D) = vs
     · obtain ⟨g', hgo, hk⟩ := q1 hv
       refine book hgo (aside_setCell w (stA F.Wg) _) (hwg.setSt _) bkw (.ws (Way.new hk)) ?_ (hph.past (by simp [earlyT]) (by simp [earlyT])) (by simp) (.inl (by simp [wt]; omega))
       rw [e2]
       exact .reg trivial hop (by omega)
     · obtain ⟨g', hgo, hk⟩ := q2 hv
       exact book hgo (.refl F.Wg w) hwg bkr (.anch (Way.new hk)) (hmode.openT trivial trivial rfl (by simp)) (hph.past (by simp [earlyT]) (by simp [earlyT])) (by simp) (.inl (by simp [wt]; omega))
   · exact way e1 e2 e3 e4 (.w2 e5)
 | ws h =>
   left
   rcases h.next hI with ⟨-, g', hgo, hk⟩ | ⟨-, g', w', es, lv', e1, e2, e3, e4, e5⟩
   · refine book hgo (.refl F.Wg w) hwg (by intro e he; simp at he; subst he; exact .inr (.inr (.inr rfl))) (.w3 (Way.new hk)) ?_ (hph.past (by simp [earlyT]) (by simp [earlyT])) (by simp) (.inl (by simp [wt]))
     cases hmode with
     | opn q _ _ => exact q.elim
     | reg _ h2 h3 => exact .reg trivial h2 h3
     | last L _ h2 h3 h4 => exact .last L trivial h2 h3 h4
     | sema _ h2 => exact .sema trivial h2
     | fin q _ => exact q.elim
   · exact way e1 e2 e3 e4 (.ws e5)
 | w3 h =>
   left
   rcases h.next' hI with hq | ⟨-, g', w', es, lv', e1, e2, e3, e4, e5⟩
   · obtain ⟨-, -, hb, hu⟩ := hq w (RelyS.refl _ _ _) hI
     by_cases hsm : sm = 0
     · subst hsm
       refine book (hb ⟨st, hwg⟩) (.refl F.Wg w) hwg (by simp) (.blk h hq) ?_ (hph.past (by simp [earlyT]) (by simp [earlyT])) (by simp) (.inr ⟨rfl, .inr ⟨rfl, by simp [flT]⟩⟩)
       cases hmode with
       | opn q _ _ => exact q.elim
       | reg _ h2 h3 => exact .reg trivial h2 h3
       | last L _ h2 h3 h4 => exact .last L trivial h2 h3 h4
       | fin q _ => exact q.elim
     · cases hmode with
       | opn q _ _ => exact q.elim
       | reg _ h2 h3 => exact absurd rfl hsm
       | last L _ h2 h3 h4 => exact absurd rfl hsm
       | fin q _ => exact q.elim
       | sema _ h2 =>
         obtain ⟨g', hgo, hk⟩ := hu hwg
         exact book hgo (aside_setCell w (smA F.Wg) _) (hwg.setSm 0) bks (.w4 (Way.new hk)) (.fin trivial h2) (hph.past (by simp [earlyT]) (by simp [earlyT])) (by simp) (.inl (by simp [wt]))
   · exact way e1 e2 e3 e4 (.w3 e5)
 | blk h h3 => cases hrun
 | w4 h =>
   left
   rcases h.next hI with ⟨-, q⟩ | ⟨-, g', w', es, lv', e1, e2, e3, e4, e5⟩
   · cases hmode with
     | opn q _ _ => exact q.elim
     | reg q _ _ => exact q.elim
     | last _ q _ _ _ => exact q.elim
     | sema q _ => exact q.elim
     | fin _ h2 =>
       obtain ⟨g', hgo, hk⟩ := q hwg
       exact book hgo (.refl F.Wg w) hwg bkr (.ke (Way.new hk)) (.fin trivial h2) (hph.past (by simp [earlyT]) (by simp [earlyT])) (by simp) (.inl (by simp [wt]))
   · exact way e1 e2 e3 e4 (.w4 e5)
 | ke h =>
   left
   rcases h.next hI with ⟨-, g', hgo, hk⟩ | ⟨-, g', w', es, lv', e1, e2, e3, e4, e5⟩
   · cases hmode with
     | opn q _ _ => exact q.elim
     | reg q _ _ => exact q.elim
     | last _ q _ _ _ => exact q.elim
     | sema q _ => exact q.elim
     | fin _ h2 => exact book hgo (.refl F.Wg w) hwg (bkm _ (.inr rfl)) (.acq (Way.new hk)) (.fin trivial h2) (hph.past (by simp [earlyT]) (by simp [earlyT])) (by simp) (.inl (by simp [wt]))
   · exact way e1 e2 e3 e4 (.ke e5)
 | acq h =>
   left
   rcases h.next hI with ⟨-, g', hgo, hk⟩ | ⟨-, g', w', es, lv', e1, e2, e3, e4, e5⟩
   · cases hmode with
     | opn q _ _ => exact q.elim
     | reg q _ _ => exact q.elim
     | last _ q _ _ _ => exact q.elim
     | sema q _ => exact q.elim
     | fin _ h2 =>
       refine book hgo (.refl F.Wg w) hwg (by intro e he; simp at he; subst he; exact .inr (.inl rfl)) (.ret (Way.new hk)) (.fin trivial h2) (hph.past (by simp [earlyT]) (by simp [earlyT])) (fun _ i hi => ?_) (.inl (by simp [wt]))
       have hno : ∀ op ∈ MemOp.ofEvents 0 a.frame.fn a.frame.place #[Go.ConcR.mk (.acquire (stA F.Wg))], op.g ≠ i + 1 := fun op hop => by rw [Go.ConcR.g_of_ofEvents op hop]; omega
       rcases hcom.rel i hi (by have := h2 i hi; simp only [stg] at this; omega) with ⟨r, hr⟩ | q
       · have e1 : MemOp.ofEvents 0 a.frame.fn a.frame.place #[Go.ConcR.mk (.acquire (stA F.Wg))] = #[{ g := 0, fn := a.frame.fn, pos := a.frame.place, act := .mark (.acquire (stA F.Wg)) }] := by rw [ofEvents_eq]; simp [Go.ConcR.ofEvent_mk]
         have hr' := hr.appNot hno
         rw [e1] at hr' ⊢
         refine ⟨stA F.Wg, r, t.size, hr', lt_of_act? hr.act, by simp [Trace.act?], by simp [Trace.g?], ⟨0, by simp [Trace.g?], by rw [deaf_old (Nat.le_refl _)]; exact hcom.deaf0⟩⟩
       · exact q.not hno
   · exact way e1 e2 e3 e4 (.acq e5)
 | ret h =>
   rcases h.next' hI with q | ⟨-, g', w', es, lv', e1, e2, e3, e4, e5⟩
   · exact .inr (.inr (.inr ⟨rfl, rfl, q⟩))
   · exact .inl (way e1 e2 e3 e4 (.ret e5))
end
end Go.Proofs.YtajnfkmkombajabDoor
namespace Go.Proofs.YtajnfkmkombajabDoor
open Go Go.Conc Go.ConcN
open Go.ConcR (KK wgBlock WgAt stA smA Bk rd wr)
section
variable {P : Program} {F : Farm P} {N j : Nat} {gs gs' : Array Goroutine} {w w' : World} {sl : Option (Nat × Nat)} {t u : Trace} {D : Nat → WD' P} {Own Own' Rd : Nat → Nat → Prop} {Sp got : Nat → Prop} {tag : CT'} {d0 : Nat} {lv0 : Lv P} {a : Goroutine} {st sm : Int} {cl : Bool} {s : Nat}
theorem spec_chan {c : Nat} {cap : Nat} {buf : Array Value} {b : Bool} {x y : Nat} {z : Bool} (h : Sp c) (d : Nat) : Spec Sp w ((w.at d).setChan c cap buf b x y z) :=
 ⟨rfl, rfl, rfl, by simp [World.setChan, World.at], fun k hk => by
   have : k ≠ c := fun e => hk (e ▸ h)
   simp [World.setChan, World.at, Array.getElem?_setIfInBounds_ne (fun e => this e.symm)]⟩
theorem chan_same {c : Nat} {cap : Nat} {buf : Array Value} {b : Bool} {x y : Nat} {z : Bool} {o : Obj} (h : w.heap[c]? = some o) (d : Nat) : ((w.at d).setChan c cap buf b x y z).heap[c]? = some (.chan cap buf b x y z) := by
 have hlt := (Array.getElem?_eq_some_iff.1 h).1
 simp [World.setChan, World.at, hlt]
theorem chan_other {c k : Nat} {cap : Nat} {buf : Array Value} {b : Bool} {x y : Nat} {z : Bool} (h : k ≠ c) (d : Nat) : ((w.at d).setChan c cap buf b x y z).heap[k]? = w.heap[k]? := by
 simp [World.setChan, World.at, Array.getElem?_setIfInBounds_ne (fun e => h e.symm)]
theorem Farm.Com.meet (L : F.Law) (h : F.Com j gs w t D Own Rd Sp d0) {i : Nat} (hi : i < j) {g' : Goroutine} {d' : WD' P} (hsz : gs'.size = gs.size) (ho : ∀ k, k ≠ 0 → k ≠ i + 1 → gs'[k]? = gs[k]?) (hg' : gs'[i + 1]? = some g') (hsp : Spec Sp w w') (hI : F.I w')
   (hlay : Lay Sp Own' Rd j w'.heap.size) (htr : Tr Sp Own' Rd j w'.heap.size (t ++ u)) (hu : Mutes j u) (hu2 : ∀ op ∈ u, op.g = 0 ∨ op.g = i + 1) (hO : ∀ k, k ≠ 0 → k ≠ i + 1 → Own' k = Own k)
   (hs' : F.WSit (Rd (i + 1)) (Own' (i + 1)) d'.st d'.tk d'.df d'.lv g' w') (hdf : d'.df = (D i).df) (h6 : 6 < d'.st) : F.Com j gs' w' (t ++ u) (upd D i d') Own' Rd Sp d0 := by
 refine ⟨hsz.trans h.size, hI, hlay, h.spc, htr, fun i' hi' => ?_, h.rdsub, by rw [Deaf_mutes hu, h.deaf0], fun i' hi' => ?_, fun i' hi' hst => ?_⟩
 · by_cases e : i' = i
   · subst e; exact ⟨g', hg', by rw [upd_same]; exact hs'⟩
   · obtain ⟨x, hx, hsx⟩ := h.wk i' hi'
     refine ⟨x, by rw [ho _ (by omega) (by omega)]; exact hx, ?_⟩
     rw [upd_ne D _ e, hO _ (by omega) (by omega)]
     exact hsx.rely L (h.turned hsp _ (by omega)) hI
 · rw [Deaf_mutes hu, h.deafW i' hi']
   by_cases e : i' = i
   · subst e; rw [upd_same, hdf]
   · rw [upd_ne D _ e]
 · by_cases e : i' = i
   · subst e; rw [upd_same] at hst; omega
   · rw [upd_ne D _ e] at hst
     have hno : ∀ op ∈ u, op.g ≠ i' + 1 := fun op hop => by rcases hu2 op hop with q | q <;> omega
     exact (h.rel i' hi' hst).imp (fun ⟨r, hr⟩ => ⟨r, hr.appNot hno⟩) fun q => q.not hno
theorem Farm.Com.parkW (h : F.Com j gs w t D Own Rd Sp d0) {i : Nat} (hi : i < j) {g' : Goroutine} {d' : WD' P} (hs' : F.WSit (Rd (i + 1)) (Own (i + 1)) d'.st d'.tk d'.df d'.lv g' w) (hdf : d'.df = (D i).df) (h6 : 6 < d'.st) : F.Com j (gs.setIfInBounds (i + 1) g') w t (upd D i d') Own Rd Sp d0 := by
 refine ⟨by simp [h.size], h.inv, h.lay, h.spc, h.tr, fun i' hi' => ?_, h.rdsub, h.deaf0, fun i' hi' => ?_, fun i' hi' hst => ?_⟩
 · by_cases e : i' = i
   · subst e; exact ⟨g', by rw [Array.getElem?_setIfInBounds_self_of_lt (by rw [h.size]; omega)], by rw [upd_same]; exact hs'⟩
   · obtain ⟨x, hx, hsx⟩ := h.wk i' hi'
     exact ⟨x, by rw [Array.getElem?_setIfInBounds_ne (by omega)]; exact hx, by rw [upd_ne D _ e]; exact hsx⟩
 · rw [h.deafW i' hi']
   by_cases e : i' = i
   · subst e; rw [upd_same, hdf]
   · rw [upd_ne D _ e]
 · by_cases e : i' = i
   · subst e; rw [upd_same] at hst; omega
   · rw [upd_ne D _ e] at hst; exact h.rel i' hi' hst
theorem Farm.Com.park0 (h : F.Com j gs w t D Own Rd Sp d0) {a' : Goroutine} : F.Com j (gs.setIfInBounds 0 a') w t D Own Rd Sp d0 :=
 ⟨by simp [h.size], h.inv, h.lay, h.spc, h.tr, fun i hi => let ⟨x, hx, hsx⟩ := h.wk i hi; ⟨x, by rw [Array.getElem?_setIfInBounds_ne (by omega)]; exact hx, hsx⟩, h.rdsub, h.deaf0, h.deafW, h.rel⟩
def handed (Own : Nat → Nat → Prop) (k : Nat) : Nat → Nat → Prop := fun i b => if i = 0 then Own 0 b ∨ Own k b else if i = k then False else Own i b
theorem Lay.hand {B k : Nat} (h : Lay Sp Own Rd j B) (k1 : 1 ≤ k) (kj : k ≤ j) : Lay Sp (handed Own k) Rd j B := by
 have old : ∀ i b, handed Own k i b → Own i b ∨ (i = 0 ∧ Own k b) := by
   intro i b hb
   unfold handed at hb
   split at hb
   · next e => subst e; exact hb.imp id fun q => ⟨rfl, q⟩
   · split at hb
     · exact hb.elim
     · exact .inl hb
 have nk : ∀ b, ¬ handed Own k k b := by
   intro b hb
   unfold handed at hb
   rw [if_neg (by omega), if_pos rfl] at hb
   exact hb
 refine ⟨h.spB, fun i hi b hb => ?_, h.rdB, fun i i' hi hi' hne b hb hb' => ?_, fun i hi b hb => ?_, fun i i' hi hi' b hb => ?_, h.rdSp⟩
 · exact (old i b hb).elim (h.ownB i hi b) fun q => h.ownB k kj b q.2
 · rcases old i b hb with q | ⟨e, q⟩ <;> rcases old i' b hb' with q' | ⟨e', q'⟩
   · exact h.own2 i i' hi hi' hne b q q'
   · by_cases e2 : i = k
     · subst e2; exact nk b hb
     · exact h.own2 i k hi kj e2 b q q'
   · by_cases e2 : i' = k
     · subst e2; exact nk b hb'
     · exact h.own2 i' k hi' kj e2 b q' q
   · omega
 · exact (old i b hb).elim (h.ownSp i hi b) fun q => h.ownSp k kj b q.2
 · exact (old i b hb).elim (h.ownRd i i' hi hi' b) fun q => h.ownRd k i' kj hi' b q.2
/-! tasks -/
theorem tks_upd (D : Nat → WD' P) (d : WD' P) {i : Nat} (hi : i < j) : tks j (upd D i d) + (if (D i).tk.isSome then 1 else 0) = tks j D + (if d.tk.isSome then 1 else 0) := sumTo_upd D d (fun x => if x.tk.isSome then 1 else 0) hi
theorem tks_one {i : Nat} {k : Nat} (hi : i < j) (h1 : tks j D = 1) (hk : (D i).tk = some k) : ∀ a, a < j → a ≠ i → (D a).tk = none := by
 intro a ha e
 have h0 := tks_upd D ⟨0, none, 0, .fuel 0⟩ hi
 rw [hk] at h0
 simp at h0
 have h2 : (if (D a).tk.isSome then 1 else 0) ≤ tks j (upd D i ⟨0, none, 0, .fuel 0⟩) := by
   have := le_sumTo (f := fun x => if (upd D i ⟨0, none, 0, .fuel 0⟩ x).tk.isSome then 1 else 0) ha
   rw [upd_ne _ _ e] at this
   exact this
 cases hh : (D a).tk with
 | none => rfl
 | some x => rw [hh] at h2; simp at h2; omega
theorem Farm.Phase.give {nx rd : Nat} (h : F.Phase N j D tag got cl) (ht : tag = .sel nx rd ∨ tag = .selp nx rd) {i : Nat} (hi : i < j) (hn : nx < F.many) (hk : (D i).tk = none) {d : WD' P} (h1 : d.st = 11) (h2 : d.tk = some nx) : F.Phase N j (upd D i d) (.sel (nx + 1) rd) got cl := by
 have he : earlyT tag := by rcases ht with rfl | rfl <;> trivial
 obtain ⟨q1, q2, q3, q4, q5⟩ := h.sel nx rd ht
 refine ⟨fun _ => ⟨(h.pre he).1, fun a ha => ?_⟩, fun q => absurd trivial q, by simp, fun _ => h.full fun r s e => (by rcases ht with q | q <;> rw [e] at q <;> cases q), fun nx' rd' e => ?_, by simp⟩
 · by_cases e : a = i
   · subst e; rw [upd_same]; omega
   · rw [upd_ne _ _ e]; exact (h.pre he).2 a ha
 · simp at e
   obtain ⟨rfl, rfl⟩ := e
   have ht := tks_upd D d hi
   rw [hk, h2] at ht
   simp at ht
   refine ⟨hn, q2, by omega, fun k hk' => ?_, i, hi, by rw [upd_same]; omega⟩
   by_cases e : k = nx
   · subst e; exact .inr ⟨i, hi, by rw [upd_same]; exact h2⟩
   · refine (q4 k (by omega)).imp id fun ⟨i', hi', q⟩ => ⟨i', hi', ?_⟩
     rw [upd_ne _ _ (by rintro rfl; rw [hk] at q; cases q)]
     exact q
theorem Farm.Phase.get {nx rd k : Nat} (h : F.Phase N j D tag got cl) (ht : tag = .sel nx rd ∨ tag = .selp nx rd) {i : Nat} (hi : i < j) (hr : rd < F.many) (hk : (D i).tk = some k) {d : WD' P} (h1 : d.st = 9) (h2 : d.tk = none) : F.Phase N j (upd D i d) (.sel nx (rd + 1)) (fun x => got x ∨ x = k) cl ∧ (rd + 1 = F.many → ∀ x, x < F.many → got x ∨ x = k) := by
 have he : earlyT tag := by rcases ht with rfl | rfl <;> trivial
 obtain ⟨q1, q2, q3, q4, q5⟩ := h.sel nx rd ht
 have ht' := tks_upd D d hi
 rw [hk, h2] at ht'
 simp at ht'
 refine ⟨⟨fun _ => ⟨(h.pre he).1, fun a ha => ?_⟩, fun q => absurd trivial q, by simp, fun _ => h.full fun r s e => (by rcases ht with q | q <;> rw [e] at q <;> cases q), fun nx' rd' e => ?_, by simp⟩, fun e x hx => ?_⟩
 · by_cases e : a = i
   · subst e; rw [upd_same]; omega
   · rw [upd_ne _ _ e]; exact (h.pre he).2 a ha
 · simp at e
   obtain ⟨rfl, rfl⟩ := e
   refine ⟨q1, hr, by omega, fun x hx => ?_, i, hi, by rw [upd_same]; omega⟩
   rcases q4 x hx with q | ⟨i', hi', q⟩
   · exact .inl (.inl q)
   · by_cases e : i' = i
     · subst e; rw [hk] at q; cases q; exact .inl (.inr rfl)
     · exact .inr ⟨i', hi', by rw [upd_ne _ _ e]; exact q⟩
 · have hone : tks j D = 1 := by omega
   have hnx : nx = F.many := by omega
   rcases q4 x (by omega) with q | ⟨i', hi', q⟩
   · exact .inl q
   · by_cases e : i' = i
     · subst e; rw [hk] at q; cases q; exact .inr rfl
     · rw [tks_one hi hone hk i' hi' e] at q; cases q
theorem Farm.Phase.parkW (h : F.Phase N j D tag got cl) {i : Nat} (hi : i < j) {d : WD' P} (h8 : 8 ≤ (D i).st) (he : earlyT tag) (h1 : d.st = 8 ∨ d.st = 10) (h2 : d.tk = (D i).tk) (hno : ∀ nx rd, tag = .selp nx rd → d.st ≠ 10 ∧ (nx < F.many → d.st ≠ 8)) : F.Phase N j (upd D i d) tag got cl := by
 have et : tks j (upd D i d) = tks j D := by have := tks_upd D d hi; rw [h2] at this; omega
 refine ⟨fun _ => ⟨(h.pre he).1, fun a ha => ?_⟩, fun q => absurd he q, fun r s e => ⟨fun a ha => ?_, (h.idle r s e).2⟩, h.full, fun nx rd e => ?_, fun nx rd e => ⟨(h.selp nx rd e).1, fun a ha => ?_⟩⟩
 · by_cases e : a = i
   · subst e; rw [upd_same]; omega
   · rw [upd_ne _ _ e]; exact (h.pre he).2 a ha
 · by_cases e' : a = i
   · subst e'; rw [upd_same, h2]; exact (h.idle r s e).1 a ha
   · rw [upd_ne _ _ e']; exact (h.idle r s e).1 a ha
 · obtain ⟨q1, q2, q3, q4, q5⟩ := h.sel nx rd e
   refine ⟨q1, q2, by rw [et]; exact q3, fun k hk => (q4 k hk).imp id fun ⟨i', hi', q⟩ => ⟨i', hi', ?_⟩, i, hi, by rw [upd_same]; omega⟩
   by_cases e' : i' = i
   · subst e'; rw [upd_same, h2]; exact q
   · rw [upd_ne _ _ e']; exact q
 · by_cases e' : a = i
   · subst e'; rw [upd_same]; exact hno nx rd e
   · rw [upd_ne _ _ e']; exact (h.selp nx rd e).2 a ha
end
end Go.Proofs.YtajnfkmkombajabDoor
namespace Go.Proofs.YtajnfkmkombajabDoor
open Go Go.Conc Go.ConcN
open Go.ConcR (KK wgBlock WgAt stA smA Bk rd wr)
theorem ofEvents_nil (g : Nat) (fn : FuncId) (pos : String) : MemOp.ofEvents g fn pos #[] = #[] := rfl
section
variable {P : Program} {F : Farm P} {N j : Nat} {gs gs' : Array Goroutine} {w : World} {sl : Option (Nat × Nat)} {t u : Trace} {D : Nat → WD' P} {Own Rd : Nat → Nat → Prop} {Sp got : Nat → Prop} {tag : CT'} {lv0 : Lv P} {a : Goroutine} {st sm : Int} {s : Nat}
theorem went_give (L : F.Law) (hcom : F.Com j gs w t D Own Rd Sp 0) (hwg : WgAt F.ty F.Wg w st sm) (htd : w.heap[F.Td]? = some (.chan 0 #[] false s s false)) (hmode : Mode' j (stg D) tag st sm) (hph : F.Phase N j D tag got false) {nx rd i k0 d : Nat} (ht : tag = .sel nx rd ∨ tag = .selp nx rd) (hi : i < j)
   (hn : nx < F.many) (hr : rd < F.many) (hk : (D i).tk = none) (hdf : (D i).df = 0) (h8 : (D i).st = 8 ∨ (D i).st = 9) {gc gw : Goroutine} (hsel : F.Sel (Rd 0) nx rd got gc w (Own 0)) (hhead : F.Head (Rd (i + 1)) gw w (Own (i + 1)))
   (hrun : runT P (crowd gs w sl) k0 = (.next (crowd gs' ((w.at d).setChan F.Td 0 #[] false (s + 1) (s + 1) false) sl), u)) (hsz : gs'.size = gs.size) (ho : ∀ k, k ≠ 0 → k ≠ i + 1 → gs'[k]? = gs[k]?) (h0 : gs'[0]? = some (gc.finishComm P (F.selC nx) .select 0 undef false)) (h1 : gs'[i + 1]? = some (Go.Conc.served gw (recvd true (.int .i64 nx) true)))
   (hu : Mutes j u) (hu2 : ∀ op ∈ u, op.g = 0 ∨ op.g = i + 1) : Went F N gs w sl t ⟨wt N F.many (Vs j (stg D)) tag + sumTo j (stg D), j + 1, vec lv0 D, flT tag⟩ k0 := by
 have hot : openT tag := by rcases ht with rfl | rfl <;> trivial
 have hpt : pendT tag = 0 := by rcases ht with rfl | rfl <;> rfl
 have hsp : Spec Sp w ((w.at d).setChan F.Td 0 #[] false (s + 1) (s + 1) false) := spec_chan hcom.spc.2.1 d
 have hwg' : WgAt F.ty F.Wg ((w.at d).setChan F.Td 0 #[] false (s + 1) (s + 1) false) st sm := hwg.of_block (chan_other L.blocks.1 d)
 have htd' := chan_same (cap := 0) (buf := #[]) (b := false) (x := s + 1) (y := s + 1) (z := false) htd d
 have hI' : F.I ((w.at d).setChan F.Td 0 #[] false (s + 1) (s + 1) false) := ⟨⟨_, _, hwg'⟩, ⟨_, _, htd'⟩, let ⟨s', q⟩ := hcom.inv.2.2; ⟨s', (chan_other L.blocks.2.2.symm d).trans q⟩⟩
 have hT := hcom.turned hsp
 have hsel' := L.sel_rely _ _ _ _ _ _ _ _ hsel (hT 0 (by omega)) hI'
 have hhead' := L.head_rely _ _ _ _ _ hhead (hT (i + 1) (by omega)) hI'
 have hgo := L.sel_give _ _ _ _ _ _ _ hsel' hI' hn hr
 have htk := L.head_take _ _ _ _ nx hhead' hI' hn
 generalize hw' : (w.at d).setChan F.Td 0 #[] false (s + 1) (s + 1) false = w' at *
 have hcnt : 5 ≤ stg D i := by simp only [stg]; omega
 refine ⟨_, _, ⟨_, _, _, _⟩, hrun, ?_, gs', w', sl, j, upd D i ⟨11, some nx, 0, .on ⟨false, F.I, Rd (i + 1), fun g W M => ∃ v, F.Back (Rd (i + 1)) nx v g W M, _, w', Own (i + 1)⟩⟩, Own, Rd, Sp, got, .sel (nx + 1) rd, 0, .on ⟨true, F.I, Rd 0, F.Turn (Rd 0) (nx + 1) rd got, _, w', Own 0⟩, _, st, sm, false, s + 1, rfl, h0,
   .sel (Way.new hgo), hcom.meet L hi hsz ho h1 hsp hI' (by rw [hsp.size]; exact hcom.lay) (by rw [hsp.size]; exact hcom.tr.mutes hu) hu hu2 (fun _ _ _ => rfl) (.task hn (Way.new htk)) hdf.symm (by simp), hwg', htd', ?_, hph.give ht hi hn hk rfl rfl, by simp, rfl⟩
 · left
   have e2 : sumTo j (stg (upd D i ⟨11, some nx, 0, .on ⟨false, F.I, Rd (i + 1), fun g W M => ∃ v, F.Back (Rd (i + 1)) nx v g W M, Go.Conc.served gw (recvd true (.int .i64 nx) true), w', Own (i + 1)⟩⟩)) + (D i).st = sumTo j (stg D) + 11 := by
     rw [stg_upd]; exact sumTo_upd (stg D) 11 id hi
   simp only
   rcases ht with rfl | rfl <;> simp only [wt] <;> omega
 · rw [stg_upd]
   exact (hmode.counted hi hcnt (by simp)).openT hot trivial (by rw [hpt]; rfl) (by simp)
theorem went_get (L : F.Law) (hcom : F.Com j gs w t D Own Rd Sp 0) (hwg : WgAt F.ty F.Wg w st sm) (htd : w.heap[F.Td]? = some (.chan 0 #[] false s s false)) (hmode : Mode' j (stg D) tag st sm) (hph : F.Phase N j D tag got false) {nx rd i k0 d k s' : Nat} (ht : tag = .sel nx rd ∨ tag = .selp nx rd) (hi : i < j)
   (hr : rd < F.many) (hk : (D i).tk = some k) (hkm : k < F.many) (hdf : (D i).df = 0) (h10 : (D i).st = 10 ∨ (D i).st = 11) {gc gw : Goroutine} {v : Value} (hsel : F.Sel (Rd 0) nx rd got gc w (Own 0)) (hback : F.Back (Rd (i + 1)) k v gw w (Own (i + 1))) (hbk : w.heap[F.Bk]? = some (.chan 0 #[] false s' s' false))
   (hrun : runT P (crowd gs w sl) k0 = (.next (crowd gs' ((w.at d).setChan F.Bk 0 #[] false (s' + 1) (s' + 1) false) sl), u)) (hsz : gs'.size = gs.size) (ho : ∀ k, k ≠ 0 → k ≠ i + 1 → gs'[k]? = gs[k]?) (h0 : gs'[0]? = some (gc.finishComm P (F.selC nx) .select 1 v true)) (h1 : gs'[i + 1]? = some (Go.Conc.served gw undef))
   (hu : Mutes j u) (hu2 : ∀ op ∈ u, op.g = 0 ∨ op.g = i + 1) (hup : ∃ x y, u[0]? = some x ∧ (x.g = i + 1 ∧ x.act = .send F.Bk s') ∧ u[3]? = some y ∧ (y.g = 0 ∧ y.act = .recvDone F.Bk s')) : Went F N gs w sl t ⟨wt N F.many (Vs j (stg D)) tag + sumTo j (stg D), j + 1, vec lv0 D, flT tag⟩ k0 := by
 have hot : openT tag := by rcases ht with rfl | rfl <;> trivial
 have hpt : pendT tag = 0 := by rcases ht with rfl | rfl <;> rfl
 have hsp : Spec Sp w ((w.at d).setChan F.Bk 0 #[] false (s' + 1) (s' + 1) false) := spec_chan hcom.spc.2.2 d
 have hwg' : WgAt F.ty F.Wg ((w.at d).setChan F.Bk 0 #[] false (s' + 1) (s' + 1) false) st sm := hwg.of_block (chan_other L.blocks.2.1 d)
 have hbk' := chan_same (cap := 0) (buf := #[]) (b := false) (x := s' + 1) (y := s' + 1) (z := false) hbk d
 have htd' : ((w.at d).setChan F.Bk 0 #[] false (s' + 1) (s' + 1) false).heap[F.Td]? = some (.chan 0 #[] false s s false) := (chan_other L.blocks.2.2 d).trans htd
 have hI' : F.I ((w.at d).setChan F.Bk 0 #[] false (s' + 1) (s' + 1) false) := ⟨⟨_, _, hwg'⟩, ⟨_, _, htd'⟩, ⟨_, hbk'⟩⟩
 have hT := hcom.turned hsp
 have hsel' := L.sel_rely _ _ _ _ _ _ _ _ hsel (hT 0 (by omega)) hI'
 have hback' := L.back_rely _ _ _ _ _ _ _ hback (hT (i + 1) (by omega)) hI'
 obtain ⟨hdel, hnext⟩ := L.back_done _ _ _ _ _ _ hback' hI'
 obtain ⟨hph', hall⟩ := hph.get (d := ⟨9, none, 0, .on ⟨false, F.I, Rd (i + 1), F.Head (Rd (i + 1)), Go.Conc.served gw undef, ((w.at d).setChan F.Bk 0 #[] false (s' + 1) (s' + 1) false), fun _ => False⟩⟩) ht hi hr hk rfl rfl
 have hgo := L.sel_get _ _ _ _ _ _ _ k v _ _ hsel' hI' hr hkm hdel (fun b hb => hcom.rdsub (i + 1) (by omega) b hb) (fun b hb => ⟨by rw [hsp.size]; exact hcom.lay.ownB (i + 1) (by omega) b hb, fun q => hcom.lay.own2 0 (i + 1) (by omega) (by omega) (by omega) b q hb, hcom.lay.ownRd (i + 1) 0 (by omega) (by omega) b hb⟩) hall
 obtain ⟨x, y, hx, hx2, hy, hy2⟩ := hup
 have htr : Tr Sp (handed Own (i + 1)) Rd j w.heap.size (t ++ u) := by
   refine hcom.tr.hand hu hcom.lay (by omega) (by omega : i + 1 ≤ j) (fun q hq => give_knows hu hx hx2 hy hy2 (by rw [hcom.deafW i hi, hdf]) hcom.deaf0 hq) (fun k' k1 kj' hne b => ?_) fun b => ?_
   · unfold handed; rw [if_neg (by omega), if_neg hne]
   · unfold handed; rw [if_neg (by omega), if_pos rfl]; exact id
 have e0 : handed Own (i + 1) 0 = fun b => Own 0 b ∨ Own (i + 1) b := by unfold handed; simp
 have e1 : handed Own (i + 1) (i + 1) = fun _ => False := by unfold handed; simp
 have eo : ∀ k, k ≠ 0 → k ≠ i + 1 → handed Own (i + 1) k = Own k := fun k h1 h2 => by unfold handed; simp [h1, h2]
 generalize hw' : (w.at d).setChan F.Bk 0 #[] false (s' + 1) (s' + 1) false = w' at *
 have hcnt : 5 ≤ stg D i := by simp only [stg]; omega
 refine ⟨_, _, ⟨_, _, _, _⟩, hrun, ?_, gs', w', sl, j, upd D i ⟨9, none, 0, .on ⟨false, F.I, Rd (i + 1), F.Head (Rd (i + 1)), Go.Conc.served gw undef, w', fun _ => False⟩⟩, handed Own (i + 1), Rd, Sp, fun x => got x ∨ x = k, .sel nx (rd + 1), 0, .on ⟨true, F.I, Rd 0, F.Turn (Rd 0) nx (rd + 1) fun x => got x ∨ x = k, _, w', fun b => Own 0 b ∨ Own (i + 1) b⟩, _, st, sm, false, s, rfl, h0,
   by rw [e0]; exact .sel (Way.new hgo), hcom.meet L hi hsz ho h1 hsp hI' (by rw [hsp.size]; exact hcom.lay.hand (by omega) (by omega)) (by rw [hsp.size]; exact htr) hu hu2 eo (by rw [e1]; exact .head (Way.new hnext)) hdf.symm (by simp), hwg', htd', ?_, hph', by simp, rfl⟩
 · left
   have e2 : sumTo j (stg (upd D i ⟨9, none, 0, .on ⟨false, F.I, Rd (i + 1), F.Head (Rd (i + 1)), Go.Conc.served gw undef, w', fun _ => False⟩⟩)) + (D i).st = sumTo j (stg D) + 9 := by
     rw [stg_upd]; exact sumTo_upd (stg D) 9 id hi
   have hle := (hph.sel nx rd ht).1
   simp only
   rcases ht with rfl | rfl <;> simp only [wt] <;> omega
 · rw [stg_upd]
   exact (hmode.counted hi hcnt (by simp)).openT hot trivial (by rw [hpt]; rfl) (by simp)
end
end Go.Proofs.YtajnfkmkombajabDoor
