/-
  The company: how the group's counter hangs on where everybody stands; the invariant with its measure; the two master laws.
  The company: a step of a worker that is its own.
  The company: every step of a worker but a communication.
-/
import Derived.Test.YtajnfkmkombajabDoorQSD10
set_option linter.unusedVariables false
set_option linter.unusedSimpArgs false
namespace Go.Proofs.YtajnfkmkombajabDoor
open Go Go.Conc Go.ConcN
open Go.ConcR (KK wgBlock WgAt stA smA)
def cntS (s : Nat) : Nat := if 5 ≤ s then 1 else 0
def Vs (j : Nat) (s : Nat → Nat) : Nat := sumTo j fun i => cntS (s i)
def pendT : CT' → Nat
 | .sp _ s => if s ≤ 4 then 1 else 0
 | _ => 0
def openT : CT' → Prop
 | .sp _ _ | .sel _ _ | .selp _ _ | .kd | .anch | .w1 | .w2 _ => True
 | _ => False
def w3T : CT' → Prop
 | .ws | .w3 | .blk => True
 | _ => False
def semT : CT' → Prop
 | .ws | .w3 => True
 | _ => False
def finT : CT' → Prop
 | .w4 | .ke | .acq | .ret => True
 | _ => False
def earlyT : CT' → Prop
 | .sp _ _ | .sel _ _ | .selp _ _ => True
 | _ => False
def OpenS (j : Nat) (s : Nat → Nat) : Prop := ∀ i, i < j → 5 ≤ s i ∨ s i = 1
def AllOne (j : Nat) (s : Nat → Nat) : Prop := ∀ i, i < j → s i = 1
inductive Mode' (j : Nat) (s : Nat → Nat) : CT' → Int → Int → Prop
 | opn {tag : CT'} : openT tag → OpenS j s → (∀ vs, tag = .w2 vs → Vs j s ≤ vs ∧ 1 ≤ vs) → Mode' j s tag (((Vs j s + pendT tag : Nat) : Int) * KK) 0
 | reg {tag : CT'} : w3T tag → OpenS j s → 1 ≤ Vs j s → Mode' j s tag (((Vs j s : Nat) : Int) * KK + 1) 0
 | last {tag : CT'} (L : Nat) : w3T tag → L < j → (s L = 4 ∨ s L = 3 ∨ s L = 2) → (∀ i, i < j → i ≠ L → s i = 1) → Mode' j s tag (if s L = 2 then 0 else 1) 0
 | sema {tag : CT'} : semT tag → AllOne j s → Mode' j s tag 0 1
 | fin {tag : CT'} : finT tag → AllOne j s → Mode' j s tag 0 0
section
variable {j : Nat} {s s' : Nat → Nat} {tag tag' : CT'} {st sm : Int}
theorem Mode'.retag (h : Mode' j s tag st sm) (e : tag' = tag ∨ (tag = .blk ∧ tag' = .w3)) : Mode' j s tag' st sm := by
 rcases e with rfl | ⟨rfl, rfl⟩
 · exact h
 · cases h with
   | opn h1 _ _ => exact h1.elim
   | reg _ h2 h3 => exact .reg trivial h2 h3
   | last L _ h2 h3 h4 => exact .last L trivial h2 h3 h4
   | sema h1 _ => exact h1.elim
   | fin h1 _ => exact h1.elim
theorem Vs_congr (h : ∀ a, a < j → s' a = s a) : Vs j s' = Vs j s := sumTo_congr fun a ha => by rw [h a ha]
theorem Mode'.congr (h : ∀ a, a < j → s' a = s a) (hm : Mode' j s tag st sm) : Mode' j s' tag st sm := by
 have hv := Vs_congr h
 cases hm with
 | opn h1 h2 h3 => rw [← hv]; exact .opn h1 (fun a ha => by rw [h a ha]; exact h2 a ha) (fun vs e => by rw [hv]; exact h3 vs e)
 | reg h1 h2 h3 => rw [← hv]; exact .reg h1 (fun a ha => by rw [h a ha]; exact h2 a ha) (by rw [hv]; exact h3)
 | last L h1 h2 h3 h4 => rw [← h L h2]; exact .last L h1 h2 (by rw [h L h2]; exact h3) (fun a ha e => by rw [h a ha]; exact h4 a ha e)
 | sema h1 h2 => exact .sema h1 fun a ha => by rw [h a ha]; exact h2 a ha
 | fin h1 h2 => exact .fin h1 fun a ha => by rw [h a ha]; exact h2 a ha
theorem Vs_upd (s : Nat → Nat) (x : Nat) {i : Nat} (hi : i < j) : Vs j (upd s i x) + cntS (s i) = Vs j s + cntS x := sumTo_upd s x cntS hi
theorem Mode'.counted {i x : Nat} (hm : Mode' j s tag st sm) (hi : i < j) (h5 : 5 ≤ s i) (hx : 5 ≤ x) : Mode' j (upd s i x) tag st sm := by
 have hv : Vs j (upd s i x) = Vs j s := by
   have := Vs_upd s x hi
   have c1 : cntS (s i) = 1 := by simp [cntS, h5]
   have c2 : cntS x = 1 := by simp [cntS, hx]
   omega
 have ho : OpenS j s → OpenS j (upd s i x) := fun h a ha => by
   by_cases e : a = i
   · subst e; rw [upd_same]; exact .inl hx
   · rw [upd_ne s _ e]; exact h a ha
 cases hm with
 | opn h1 h2 h3 => rw [← hv]; exact .opn h1 (ho h2) (fun vs e => by rw [hv]; exact h3 vs e)
 | reg h1 h2 h3 => rw [← hv]; exact .reg h1 (ho h2) (by rw [hv]; exact h3)
 | last L h1 h2 h3 h4 =>
   by_cases e : i = L
   · subst e; omega
   · have := h4 i hi e; omega
 | sema _ h2 => have := h2 i hi; omega
 | fin h1 h2 => have := h2 i hi; omega
theorem Mode'.not_ret {i : Nat} (hm : Mode' j s tag st sm) (hi : i < j) (h : s i ≠ 1) : tag ≠ .ret := by
 rintro rfl
 cases hm with
 | opn h1 _ _ => exact h1
 | reg h1 _ _ => exact h1
 | last L h1 _ _ _ => exact h1
 | sema h1 _ => exact h1
 | fin _ h2 => exact h (h2 i hi)
theorem Mode'.isLast {i : Nat} (hm : Mode' j s tag st sm) (hi : i < j) (h : s i = 4 ∨ s i = 3 ∨ s i = 2) :
   w3T tag ∧ (∀ a, a < j → a ≠ i → s a = 1) ∧ st = (if s i = 2 then 0 else 1) ∧ sm = 0 := by
 cases hm with
 | opn _ h2 _ => have := h2 i hi; omega
 | reg _ h2 _ => have := h2 i hi; omega
 | last L h1 h2 h3 h4 =>
   by_cases e : i = L
   · subst e; exact ⟨h1, h4, rfl, rfl⟩
   · have := h4 i hi e; omega
 | sema _ h2 => have := h2 i hi; omega
 | fin _ h2 => have := h2 i hi; omega
theorem Vs_le (j : Nat) (s : Nat → Nat) : Vs j s ≤ j := by
 have := sumTo_le (f := fun i => cntS (s i)) (c := 1) (j := j) fun i _ => by simp only [cntS]; split <;> omega
 simpa [Vs] using this
theorem Vs_others {i : Nat} (hi : i < j) (h1 : Vs j s = 1) (hc : cntS (s i) = 1) : ∀ a, a < j → a ≠ i → cntS (s a) = 0 := by
 intro a ha e
 have h0 := Vs_upd s 0 hi
 have c0 : cntS 0 = 0 := rfl
 have := le_sumTo (f := fun x => cntS (upd s i 0 x)) ha
 simp only [upd_ne s _ e] at this
 simp only [Vs] at h0 h1
 omega
end
/-! the measure's first part -/
def wt (N many v : Nat) : CT' → Nat
 | .sp r s => 9 * N + 12 + 80 * many + 40 * (r + 1) + s
 | .sel nx rd => 9 * N + 12 + 40 * (2 * many - nx - rd)
 | .selp nx rd => 9 * N + 11 + 40 * (2 * many - nx - rd)
 | .kd => 8 * N + 7
 | .anch => 8 * v + 6
 | .w1 => 8 * v + 5
 | .w2 vs => 8 * vs + 4
 | .ws => 6
 | .w3 => 5
 | .blk => 5
 | .w4 => 4
 | .ke => 3
 | .acq => 2
 | .ret => 1
def flT : CT' → Nat
 | .blk => 0
 | _ => 1
theorem wt_mono (N many : Nat) {v v' : Nat} (h : v' ≤ v) (tag : CT') : wt N many v' tag ≤ wt N many v tag := by
 cases tag <;> simp only [wt] <;> omega
theorem wt_retag (N many v : Nat) {tag tag' : CT'} (e : tag' = tag ∨ (tag = .blk ∧ tag' = .w3)) : wt N many v tag' = wt N many v tag := by
 rcases e with rfl | ⟨rfl, rfl⟩ <;> rfl
def vec {P : Program} (lv0 : Lv P) (D : Nat → WD' P) : Nat → Lv P
 | 0 => lv0
 | i + 1 => (D i).lv
def stg {P : Program} (D : Nat → WD' P) (i : Nat) : Nat := (D i).st
theorem stg_upd {P : Program} (D : Nat → WD' P) (i : Nat) (d : WD' P) : stg (upd D i d) = upd (stg D) i d.st := funext fun a => by
 by_cases e : a = i
 · subst e; simp [stg, upd_same]
 · simp [stg, upd_ne _ _ e]
def tks {P : Program} (j : Nat) (D : Nat → WD' P) : Nat := sumTo j fun i => if (D i).tk.isSome then 1 else 0
section
variable {P : Program} (F : Farm P)
structure Farm.Phase (N j : Nat) (D : Nat → WD' P) (tag : CT') (got : Nat → Prop) (cl : Bool) : Prop where
 pre : earlyT tag → cl = false ∧ ∀ i, i < j → 8 ≤ (D i).st ∨ (D i).st = 1
 post : ¬ earlyT tag → cl = true ∧ ∀ i, i < j → (D i).st ≠ 8 ∧ (D i).tk = none
 idle : ∀ r s, tag = .sp r s → (∀ i, i < j → (D i).tk = none) ∧ (∀ k, ¬ got k) ∧ j + r + 1 = N
 full : (∀ r s, tag ≠ .sp r s) → j = N
 sel : ∀ nx rd, (tag = .sel nx rd ∨ tag = .selp nx rd) → nx ≤ F.many ∧ rd ≤ F.many ∧ nx = rd + tks j D ∧ (∀ k, k < nx → got k ∨ ∃ i, i < j ∧ (D i).tk = some k) ∧ ∃ i, i < j ∧ 8 ≤ (D i).st
 selp : ∀ nx rd, tag = .selp nx rd → rd < F.many ∧ ∀ i, i < j → (D i).st ≠ 10 ∧ (nx < F.many → (D i).st ≠ 8)
def Farm.Inv (N : Nat) (μ : Mu P) (m : Machine) (t : Trace) : Prop :=
 ∃ (gs : Array Goroutine) (w : World) (sl : Option (Nat × Nat)) (j : Nat) (D : Nat → WD' P) (Own Rd : Nat → Nat → Prop) (Sp : Nat → Prop) (got : Nat → Prop) (tag : CT') (d0 : Nat) (lv0 : Lv P) (a : Goroutine) (st sm : Int) (cl : Bool) (s : Nat),
   m = crowd gs w sl ∧ gs[0]? = some a ∧ F.CSit (Rd 0) (Own 0) got tag d0 lv0 a w ∧ F.Com j gs w t D Own Rd Sp d0 ∧ WgAt F.ty F.Wg w st sm ∧ w.heap[F.Td]? = some (.chan 0 #[] cl s s false) ∧ Mode' j (stg D) tag st sm ∧ F.Phase N j D tag got cl ∧
   (tag = .ret → ∀ i, i < j → Over t (i + 1)) ∧ μ = ⟨wt N F.many (Vs j (stg D)) tag + sumTo j (stg D), j + 1, vec lv0 D, flT tag⟩
end
section
variable {P : Program} {F : Farm P} {N j : Nat} {D : Nat → WD' P} {tag tag' : CT'} {got : Nat → Prop} {cl : Bool}
theorem Farm.Phase.retag (h : F.Phase N j D tag got cl) (e : tag' = tag ∨ (tag = .blk ∧ tag' = .w3)) : F.Phase N j D tag' got cl := by
 rcases e with rfl | ⟨rfl, rfl⟩
 · exact h
 · exact ⟨fun q => q.elim, fun _ => h.post id, by simp, fun _ => h.full (by simp), by simp, by simp⟩
end
section
variable {P : Program} {F : Farm P} {N j : Nat} {gs : Array Goroutine} {w w' : World} {sl : Option (Nat × Nat)} {t : Trace} {D : Nat → WD' P} {Own Own' Rd : Nat → Nat → Prop} {Sp got : Nat → Prop} {tag : CT'} {d0 : Nat} {lv0 : Lv P} {a : Goroutine} {st sm : Int} {cl : Bool} {s : Nat}
theorem workerGo (L : F.Law) (hR : ∀ S g w M, F.Ret S g w M → g.status = .running) (ha : gs[0]? = some a) (hcs : F.CSit (Rd 0) (Own 0) got tag d0 lv0 a w) (hcom : F.Com j gs w t D Own Rd Sp d0)
   {i : Nat} (hi : i < j) {g g' : Goroutine} {es : Array Event} {d' : WD' P} {st' sm' : Int} {s' : Nat} (hg : gs[i + 1]? = some g) (hgo : stepG P false g w = .go g' w' es)
   (hr : ∀ k, k ≤ j → k ≠ i + 1 → RelyS (Rd k) (Own k) w w') (hI : F.I w') (hO : ∀ k, k ≠ i + 1 → Own' k = Own k) (hlay : Lay Sp Own' Rd j w'.heap.size) (htr : Tr Sp Own' Rd j w'.heap.size (t ++ MemOp.ofEvents (i + 1) g.frame.fn g.frame.place es)) (hq : F.Still j D w')
   (hs' : F.WSit (Rd (i + 1)) (Own' (i + 1)) d'.st d'.tk d'.df d'.lv g' w') (hdeaf : deafBehind (D i).df es = d'.df) (hrel : d'.st ≤ 6 → (∃ r, RelBy (stA F.Wg) (t ++ MemOp.ofEvents (i + 1) g.frame.fn g.frame.place es) (i + 1) r) ∨ Over (t ++ MemOp.ofEvents (i + 1) g.frame.fn g.frame.place es) (i + 1))
   (hwg' : WgAt F.ty F.Wg w' st' sm') (htd' : w'.heap[F.Td]? = some (.chan 0 #[] cl s' s' false)) (hph : F.Phase N j (upd D i d') tag got cl)
   (hmode : ∀ tag', (tag' = tag ∨ (tag = .blk ∧ tag' = .w3)) → (mayWake P g = true → g'.status = .running → tag' ≠ .blk) → Mode' j (upd (stg D) i d'.st) tag' st' sm')
   (hacq : tag = .ret → ∀ i', i' < j → Over (t ++ MemOp.ofEvents (i + 1) g.frame.fn g.frame.place es) (i' + 1))
   (hlt : (d'.st < (D i).st ∧ cntS d'.st ≤ cntS (D i).st) ∨ (d'.st = (D i).st ∧ LvStep d'.lv (D i).lv)) :
   ∃ m₁ ops μ', runT P (crowd gs w sl) (i + 1) = (.next m₁, ops) ∧ Mu.lt μ' ⟨wt N F.many (Vs j (stg D)) tag + sumTo j (stg D), j + 1, vec lv0 D, flT tag⟩ ∧ F.Inv N μ' m₁ (t ++ ops) := by
 have h0 : Own' 0 = Own 0 := hO 0 (by omega)
 have ho : ∀ nx rd, tag = .selp nx rd → ∃ s, w'.heap[F.Td]? = some (.chan 0 #[] false s s false) := fun nx rd e => by
   have := (hph.pre (by rw [e]; trivial)).1
   exact ⟨s', by rw [htd', this]⟩
 obtain ⟨tag', hcs', htag, hwk⟩ := hcs.wokenBy L (hR _) hcom.inv (hr 0 (by omega) (by omega)) hI ho g g'
 have hrun := runT_crowd_go (P := P) (sl := sl) (i := i + 1) hg (by simpa using hgo)
 have e1 : Vs j (upd (stg D) i d'.st) + cntS (D i).st = Vs j (stg D) + cntS d'.st := Vs_upd (stg D) d'.st hi
 have e2 : sumTo j (upd (stg D) i d'.st) + (D i).st = sumTo j (stg D) + d'.st := sumTo_upd (stg D) d'.st id hi
 refine ⟨_, _, ⟨wt N F.many (Vs j (stg (upd D i d'))) tag' + sumTo j (stg (upd D i d')), j + 1, vec lv0 (upd D i d'), flT tag'⟩, hrun, ?_,
   _, w', sl, j, upd D i d', Own', Rd, Sp, got, tag', d0, lv0, woken P g g' w' a, st', sm', cl, s', rfl, by rw [get_map_set _ _ _ _ (by omega), ha]; rfl, by rw [h0]; exact hcs', hcom.stepW L hi hr hI hO hlay htr hq hs' hdeaf hrel, hwg', htd', by rw [stg_upd]; exact hmode tag' htag hwk, hph.retag htag, ?_, rfl⟩
 · rw [wt_retag N F.many _ htag, stg_upd]
   have hle := wt_mono N F.many (v' := Vs j (upd (stg D) i d'.st)) (v := Vs j (stg D))
   rcases hlt with ⟨h1, h2⟩ | ⟨h1, h2⟩
   · left
     have := hle (by omega) tag
     simp only
     omega
   · right; left
     have ec : cntS d'.st = cntS (D i).st := by rw [h1]
     have ev : Vs j (upd (stg D) i d'.st) = Vs j (stg D) := by omega
     refine ⟨?_, rfl, i + 1, by simp only; omega, ?_, fun k hk => ?_⟩
     · simp only
       rw [ev]
       omega
     · simp only [vec, upd_same]; exact h2
     · cases k with
       | zero => rfl
       | succ k => simp only [vec]; rw [upd_ne D _ (by omega)]
 · intro e
   rcases htag with rfl | ⟨_, rfl⟩
   · exact hacq e
   · cases e
theorem callerGo (L : F.Law) (ha : gs[0]? = some a) (hcom : F.Com j gs w t D Own Rd Sp d0) {a' : Goroutine} {es : Array Event} {tag' : CT'} {lv' : Lv P} {st' sm' : Int} {s' : Nat} {cl' : Bool} {got' : Nat → Prop} (hgo : stepG P true a w = .go a' w' es)
   (hr : ∀ k, k ≤ j → k ≠ 0 → RelyS (Rd k) (Own k) w w') (hI : F.I w') (hO : ∀ k, k ≠ 0 → Own' k = Own k) (hlay : Lay Sp Own' Rd j w'.heap.size) (htr : Tr Sp Own' Rd j w'.heap.size (t ++ MemOp.ofEvents 0 a.frame.fn a.frame.place es)) (hq : F.Still j D w')
   (hcs' : F.CSit (Rd 0) (Own' 0) got' tag' (deafBehind d0 es) lv' a' w') (hwg' : WgAt F.ty F.Wg w' st' sm') (htd' : w'.heap[F.Td]? = some (.chan 0 #[] cl' s' s' false)) (hmode : Mode' j (stg D) tag' st' sm') (hph : F.Phase N j D tag' got' cl')
   (hacq : tag' = .ret → ∀ i', i' < j → Over (t ++ MemOp.ofEvents 0 a.frame.fn a.frame.place es) (i' + 1))
   (hlt : wt N F.many (Vs j (stg D)) tag' < wt N F.many (Vs j (stg D)) tag ∨ (wt N F.many (Vs j (stg D)) tag' = wt N F.many (Vs j (stg D)) tag ∧ (LvStep lv' lv0 ∨ (lv' = lv0 ∧ flT tag' < flT tag)))) :
   ∃ m₁ ops μ', runT P (crowd gs w sl) 0 = (.next m₁, ops) ∧ Mu.lt μ' ⟨wt N F.many (Vs j (stg D)) tag + sumTo j (stg D), j + 1, vec lv0 D, flT tag⟩ ∧ F.Inv N μ' m₁ (t ++ ops) := by
 have hrun := runT_crowd_go (P := P) (sl := sl) (i := 0) ha (by simpa using hgo)
 refine ⟨_, _, ⟨wt N F.many (Vs j (stg D)) tag' + sumTo j (stg D), j + 1, vec lv' D, flT tag'⟩, hrun, ?_,
   _, w', sl, j, D, Own', Rd, Sp, got', tag', deafBehind d0 es, lv', a', st', sm', cl', s', rfl, get_map_set_same _ _ _ (by rw [hcom.size]; omega), hcs', hcom.step0 L hr hI hO hlay htr hq, hwg', htd', hmode, hph, hacq, rfl⟩
 rcases hlt with h | ⟨h1, h | ⟨rfl, h⟩⟩
 · left; simp only; omega
 · right; left
   refine ⟨by simp only; rw [h1], rfl, 0, by simp only; omega, h, fun k hk => ?_⟩
   cases k with
   | zero => exact absurd rfl hk
   | succ k => rfl
 · right; right
   exact ⟨by simp only; rw [h1], rfl, rfl, h⟩
end
end Go.Proofs.YtajnfkmkombajabDoor
namespace Go.Proofs.YtajnfkmkombajabDoor
open Go Go.Conc Go.ConcN
open Go.ConcR (KK wgBlock WgAt stA smA Bk)
section
variable {P : Program} {F : Farm P} {N j : Nat} {D D' : Nat → WD' P} {tag : CT'} {got : Nat → Prop} {cl : Bool}
theorem Farm.Phase.congr (h : F.Phase N j D tag got cl) (e : ∀ a, a < j → (D' a).st = (D a).st ∧ (D' a).tk = (D a).tk) : F.Phase N j D' tag got cl := by
 have et : tks j D' = tks j D := sumTo_congr fun a ha => by rw [(e a ha).2]
 refine ⟨fun q => ⟨(h.pre q).1, fun i hi => by rw [(e i hi).1]; exact (h.pre q).2 i hi⟩, fun q => ⟨(h.post q).1, fun i hi => by rw [(e i hi).1, (e i hi).2]; exact (h.post q).2 i hi⟩, fun r s q => ⟨fun i hi => by rw [(e i hi).2]; exact (h.idle r s q).1 i hi, (h.idle r s q).2⟩, h.full, fun nx rd q => ?_, fun nx rd q => ⟨(h.selp nx rd q).1, fun i hi => by rw [(e i hi).1]; exact (h.selp nx rd q).2 i hi⟩⟩
 obtain ⟨h1, h2, h3, h4, i, h5, h6⟩ := h.sel nx rd q
 refine ⟨h1, h2, by rw [et]; exact h3, fun k hk => (h4 k hk).imp id fun ⟨i, hi, q⟩ => ⟨i, hi, by rw [(e i hi).2]; exact q⟩, i, h5, by rw [(e i h5).1]; exact h6⟩
theorem Farm.Phase.same (h : F.Phase N j D tag got cl) {i : Nat} {d : WD' P} (h1 : d.st = (D i).st) (h2 : d.tk = (D i).tk) : F.Phase N j (upd D i d) tag got cl := by
 refine h.congr fun a _ => ?_
 by_cases e : a = i
 · subst e; rw [upd_same]; exact ⟨h1, h2⟩
 · rw [upd_ne _ _ e]; exact ⟨rfl, rfl⟩
theorem Farm.Phase.late (h : F.Phase N j D tag got cl) (hl : ¬ earlyT tag) {i : Nat} {d : WD' P} (h1 : d.st ≠ 8) (h2 : d.tk = none) : F.Phase N j (upd D i d) tag got cl := by
 refine ⟨fun q => absurd q hl, fun _ => ⟨(h.post hl).1, fun a ha => ?_⟩, fun r s q => absurd (by rw [q]; trivial) hl, h.full, fun nx rd q => absurd (by rcases q with q | q <;> rw [q] <;> trivial) hl, fun nx rd q => absurd (by rw [q]; trivial) hl⟩
 by_cases e : a = i
 · subst e; rw [upd_same]; exact ⟨h1, h2⟩
 · rw [upd_ne _ _ e]; exact (h.post hl).2 a ha
theorem Farm.Phase.is_late (h : F.Phase N j D tag got cl) {i : Nat} (hi : i < j) (h8 : (D i).st < 8) (h1 : (D i).st ≠ 1) : ¬ earlyT tag := fun q => by
 have := (h.pre q).2 i hi
 omega
theorem Farm.Phase.still (h : F.Phase N j D tag got cl) {w : World} {s : Nat} (htd : w.heap[F.Td]? = some (.chan 0 #[] cl s s false)) : F.Still j D w := by
 by_cases q : earlyT tag
 · left; exact ⟨s, by rw [htd, (h.pre q).1]⟩
 · right; exact fun i hi => ((h.post q).2 i hi).1
end
section
variable {Sp : Nat → Prop} {Own Rd : Nat → Nat → Prop} {j Wg B : Nat} {t : Trace}
theorem Tr.bookW (h : Tr Sp Own Rd j B t) (hL : Lay Sp Own Rd j B) (hs : Sp Wg) {k : Nat} (k1 : 1 ≤ k) (kj : k ≤ j) {fn : FuncId} {pos : String} {es : Array Event} (he : ∀ e ∈ es, Bk Wg e) : Tr Sp Own Rd j B (t ++ MemOp.ofEvents k fn pos es) := by
 have key : ∀ op ∈ MemOp.ofEvents k fn pos es, ∃ e ∈ es, op = { g := k, fn, pos, act := .ofEvent e } := by
   intro op hop
   rw [ofEvents_eq] at hop
   obtain ⟨e, he, rfl⟩ := Array.mem_map.1 hop
   exact ⟨e, he, rfl⟩
 have tch : ∀ e ∈ es, ∀ x, (MemAct.ofEvent e).touch? = some x → blk x.loc = some Wg ∧ x.kind = .atomic := by
   intro e hee x hx
   rcases he e hee with h1 | h1 | ⟨a, wr, rfl, ha⟩
   · rw [Go.ConcR.ofEvent_loc_mark h1] at hx; cases hx
   · rw [Go.ConcR.ofEvent_loc_mark h1] at hx; cases hx
   · rw [Go.ConcR.ofEvent_cell] at hx
     simp only [MemAct.touch?, Option.some.injEq] at hx
     subst hx
     exact ⟨by simp [blk, ha], rfl⟩
 refine h.appW hL k1 kj (fun op hop => ?_) (fun op hop a b ha hb => ?_) fun op hop a hm => ?_
 · obtain ⟨e, hee, rfl⟩ := key op hop
   refine ⟨rfl, fun x hx => .inl ?_⟩
   obtain ⟨q1, q2⟩ := tch e hee x hx
   exact ⟨⟨Wg, q1, hs⟩, by rw [q2]; simp, by rw [q2]; simp⟩
 · obtain ⟨e, hee, rfl⟩ := key op hop
   obtain ⟨q1, q2⟩ := tch e hee a ha
   rw [hb] at q1; cases q1
   exact hL.spB _ hs
 · obtain ⟨e, hee, rfl⟩ := key op hop
   rcases he e hee with h1 | h1 | ⟨a', wr, rfl, ha'⟩
   · simp only at hm; rw [Go.ConcR.ofEvent_loc_mark h1] at hm; cases hm
   · simp only at hm; rw [Go.ConcR.ofEvent_loc_mark h1] at hm; cases hm
   · simp only at hm; rw [Go.ConcR.ofEvent_cell] at hm; cases hm
theorem spec_cell {w : World} {a : Addr} {v : Value} (h : Sp a.block) : Spec Sp w (w.setCell a v) := by
 have e := Go.Conc.aside_setCell w a v
 exact ⟨e.os, e.output, e.tape, e.size, fun b hb => e.block b fun q => hb (q ▸ h)⟩
end
end Go.Proofs.YtajnfkmkombajabDoor
namespace Go.Proofs.YtajnfkmkombajabDoor
open Go Go.Conc Go.ConcN
open Go.ConcR (KK wgBlock WgAt stA smA Bk rd wr)
section
variable {P : Program} {F : Farm P} {N j : Nat} {gs : Array Goroutine} {w : World} {sl : Option (Nat × Nat)} {t : Trace} {D : Nat → WD' P} {Own Rd : Nat → Nat → Prop} {Sp got : Nat → Prop} {tag : CT'} {d0 : Nat} {lv0 : Lv P} {a : Goroutine} {st sm : Int} {cl : Bool} {s : Nat}
def Went (F : Farm P) (N : Nat) (gs : Array Goroutine) (w : World) (sl : Option (Nat × Nat)) (t : Trace) (μ : Mu P) (k : Nat) : Prop :=
 ∃ m₁ ops μ', runT P (crowd gs w sl) k = (.next m₁, ops) ∧ Mu.lt μ' μ ∧ F.Inv N μ' m₁ (t ++ ops)
theorem Mode'.same {s : Nat → Nat} {i x : Nat} (hm : Mode' j s tag st sm) (e : x = s i) : Mode' j (upd s i x) tag st sm := by rw [e, upd_self]; exact hm
theorem bk_cell' {Wg : Nat} (a : Addr) (x : Bool) (h : a.block = Wg) : Bk Wg ⟨.cell a, x, true⟩ := .inr (.inr ⟨a, x, rfl, h⟩)
theorem workerOwn (L : F.Law) (hR : ∀ S g w M, F.Ret S g w M → g.status = .running) (hn : N < 2147483648) (ha : gs[0]? = some a) (hcs : F.CSit (Rd 0) (Own 0) got tag d0 lv0 a w) (hcom : F.Com j gs w t D Own Rd Sp d0) (hwg : WgAt F.ty F.Wg w st sm) (htd : w.heap[F.Td]? = some (.chan 0 #[] cl s s false))
   (hmode : Mode' j (stg D) tag st sm) (hph : F.Phase N j D tag got cl) (hpd : j + pendT tag ≤ N) (hacq : tag = .ret → ∀ i, i < j → Over t (i + 1)) {i : Nat} (hi : i < j) {g : Goroutine} (hg : gs[i + 1]? = some g) (hrun : g.status = .running) :
   Went F N gs w sl t ⟨wt N F.many (Vs j (stg D)) tag + sumTo j (stg D), j + 1, vec lv0 D, flT tag⟩ (i + 1) ∨
   (∃ g0, F.Head (Rd (i + 1)) g0 w (Own (i + 1)) ∧ (D i).st = 9 ∧ (D i).tk = none ∧ (D i).df = 0 ∧ g.frame = g0.frame ∧ stepG P false g w = stepG P false g0 w) ∨
   (∃ k v, (D i).st = 11 ∧ (D i).tk = some k ∧ (D i).df = 0 ∧ k < F.many ∧ F.Back (Rd (i + 1)) k v g w (Own (i + 1))) := by
 obtain ⟨g₁, hg₁, hs⟩ := hcom.wk i hi
 obtain rfl : g = g₁ := by rw [hg] at hg₁; exact Option.some.inj hg₁
 have hI := hcom.inv
 have hVj := Vs_le j (stg D)
 have hstg : stg D i = (D i).st := rfl
 have hdk : Deaf t (i + 1) = (D i).df := hcom.deafW i hi
 have nr : (D i).st ≠ 1 → tag ≠ .ret := fun h => hmode.not_ret hi h
 -- a way goes on
 have way : ∀ {Stop : Goroutine → World → (Nat → Prop) → Prop} {g' : Goroutine} {w' : World} {es : Array Event} {lv' : Lv P}, 7 ≤ (D i).st → (D i).df = 0 → stepG P false g w = .go g' w' es → Moves (Own (i + 1)) (growM (Own (i + 1)) w w') w w' → (∀ e ∈ es, EvOk (Rd (i + 1)) (growM (Own (i + 1)) w w') e) → LvStep lv' (D i).lv →
     F.WSit (Rd (i + 1)) (growM (Own (i + 1)) w w') (D i).st (D i).tk (D i).df lv' g' w' → Went F N gs w sl t ⟨wt N F.many (Vs j (stg D)) tag + sumTo j (stg D), j + 1, vec lv0 D, flT tag⟩ (i + 1) := by
   intro Stop g' w' es lv' h7 hdf hgo hmv hev hlv hs'
   obtain ⟨q1, q2, q3, q4, q5, q6, q7⟩ := hcom.moved (t := t) (fn := g.frame.fn) (pos := g.frame.place) (by omega) hmv hev
   have htd' : w'.heap[F.Td]? = some (.chan 0 #[] cl s s false) := q7.trans htd
   exact workerGo (d' := ⟨(D i).st, (D i).tk, (D i).df, lv'⟩) L hR ha hcs hcom hi hg hgo q2 q1 q5 q3 q4 (hph.still htd') (by rw [upd_same]; exact hs') (by rw [hdf]; exact deaf_own hev 0) (fun h => by simp only at h; omega) (hwg.of_block q6) htd' (hph.same rfl rfl)
     (fun tag' ht _ => Mode'.retag (hmode.same rfl) ht) (fun e => absurd e (nr (by omega))) (.inr ⟨rfl, hlv⟩)
 -- a step of the library's bookkeeping: at most the group's block turns
 have bookG : ∀ {g' : Goroutine} {w' : World} {es : Array Event} {d' : WD' P} {st' sm' : Int}, stepG P false g w = .go g' w' es → Aside F.Wg w w' → WgAt F.ty F.Wg w' st' sm' → (∀ e ∈ es, Bk F.Wg e) →
     (∀ jx e, es[jx]? = some e → (MemAct.ofEvent e).touch? = none ∨ 0 < deafBehind (D i).df (es.extract 0 jx)) → F.WSit (Rd (i + 1)) (Own (i + 1)) d'.st d'.tk d'.df d'.lv g' w' → deafBehind (D i).df es = d'.df → (D i).st ≤ 6 → F.Phase N j (upd D i d') tag got cl →
     (∀ tag', (tag' = tag ∨ (tag = .blk ∧ tag' = .w3)) → (mayWake P g = true → g'.status = .running → tag' ≠ .blk) → Mode' j (upd (stg D) i d'.st) tag' st' sm') → ((d'.st < (D i).st ∧ cntS d'.st ≤ cntS (D i).st) ∨ (d'.st = (D i).st ∧ LvStep d'.lv (D i).lv)) →
     Went F N gs w sl t ⟨wt N F.many (Vs j (stg D)) tag + sumTo j (stg D), j + 1, vec lv0 D, flT tag⟩ (i + 1) := by
   intro g' w' es d' st' sm' hgo hAs hwg' hbk hd hs' hdd h6 hph' hmode' hlt
   have hsp : Spec Sp w w' := ⟨hAs.os, hAs.output, hAs.tape, hAs.size, fun b hb => hAs.block b fun q => hb (q ▸ hcom.spc.1)⟩
   have e2 := hAs.block F.Td L.blocks.1.symm
   have e3 := hAs.block F.Bk L.blocks.2.1.symm
   have hI' : F.I w' := ⟨⟨_, _, hwg'⟩, ⟨cl, s, e2.trans htd⟩, let ⟨s', q⟩ := hI.2.2; ⟨s', e3.trans q⟩⟩
   have htd' : w'.heap[F.Td]? = some (.chan 0 #[] cl s s false) := e2.trans htd
   have hlay : Lay Sp Own Rd j w'.heap.size := by rw [hAs.size]; exact hcom.lay
   have htr : Tr Sp Own Rd j w'.heap.size (t ++ MemOp.ofEvents (i + 1) g.frame.fn g.frame.place es) := by rw [hAs.size]; exact hcom.tr.bookW hcom.lay hcom.spc.1 (by omega) (by omega) hbk
   have hrel : ∀ a r, RelBy a t (i + 1) r → RelBy a (t ++ MemOp.ofEvents (i + 1) g.frame.fn g.frame.place es) (i + 1) r := fun a r hr => hr.book hdk _ _ hbk hd
   refine workerGo L hR ha hcs hcom hi hg hgo (fun k hk _ => hcom.turned hsp k hk) hI' (fun _ _ => rfl) hlay htr (hph.still htd') hs' hdd (fun _ => (hcom.rel i hi h6).imp (fun ⟨r, hr⟩ => ⟨r, hrel _ r hr⟩) fun q => q.app hrel) hwg' htd' hph' hmode' (fun e i' hi' => ?_) hlt
   by_cases e' : i' = i
   · subst e'; exact (hacq e i' hi').app hrel
   · exact (hacq e i' hi').not fun op hop => by rw [Go.ConcR.g_of_ofEvents op hop]; omega
 have book : ∀ {g' : Goroutine} {w' : World} {es : Array Event} {d' : WD' P} {st' sm' : Int}, stepG P false g w = .go g' w' es → Aside F.Wg w w' → WgAt F.ty F.Wg w' st' sm' → (∀ e ∈ es, Bk F.Wg e) →
     (∀ jx e, es[jx]? = some e → (MemAct.ofEvent e).touch? = none ∨ 0 < deafBehind (D i).df (es.extract 0 jx)) → F.WSit (Rd (i + 1)) (Own (i + 1)) d'.st d'.tk d'.df d'.lv g' w' → deafBehind (D i).df es = d'.df → (D i).st ≤ 6 → F.Phase N j (upd D i d') tag got cl →
     Mode' j (upd (stg D) i d'.st) tag st' sm' → ((d'.st < (D i).st ∧ cntS d'.st ≤ cntS (D i).st) ∨ (d'.st = (D i).st ∧ LvStep d'.lv (D i).lv)) →
     Went F N gs w sl t ⟨wt N F.many (Vs j (stg D)) tag + sumTo j (stg D), j + 1, vec lv0 D, flT tag⟩ (i + 1) :=
   fun hgo hAs hwg' hbk hd hs' hdd h6 hph' hmode' hlt => bookG hgo hAs hwg' hbk hd hs' hdd h6 hph' (fun _ ht _ => hmode'.retag ht) hlt
 -- an idle step behind the release
 have idle : ∀ {g' : Goroutine} {m m' : Nat}, stepG P false g w = .go g' w #[] → (D i).lv = .fuel m → m' < m → F.WSit (Rd (i + 1)) (Own (i + 1)) (D i).st (D i).tk (D i).df (.fuel m') g' w → (D i).st ≤ 6 →
     Went F N gs w sl t ⟨wt N F.many (Vs j (stg D)) tag + sumTo j (stg D), j + 1, vec lv0 D, flT tag⟩ (i + 1) := by
   intro g' m m' hgo hm hlt hs' h6
   exact book (d' := ⟨(D i).st, (D i).tk, (D i).df, .fuel m'⟩) hgo (.refl F.Wg w) hwg (by simp) (by simp) hs' rfl h6 (hph.same rfl rfl) (hmode.same rfl) (.inr ⟨rfl, by rw [hm]; exact .fuel hlt⟩)
 have late : (D i).st < 8 → (D i).st ≠ 1 → ¬ earlyT tag := hph.is_late hi
 generalize hst : (D i).st = x at hs
 generalize htk : (D i).tk = tk at hs
 generalize hdf : (D i).df = df at hs
 generalize hlv : (D i).lv = lv at hs
 rw [hst, hdf] at way bookG book
 rw [hst, htk, hdf] at idle
 rw [htk] at way
 rw [hlv] at way bookG book idle
 rw [hst] at nr late hstg
 cases hs with
 | head h =>
   rcases h.next hI with q | ⟨-, g', w', es, lv', e1, e2, e3, e4, e5⟩
   · exact .inr (.inl ⟨g, q, rfl, rfl, rfl, rfl, rfl⟩)
   · exact .inl (way (Stop := F.Head (Rd (i + 1))) (by omega) rfl e1 e2 e3 e4 (.head e5))
 | hpark h => cases hrun
 | hwoke h =>
   rename_i g0
   exact .inr (.inl ⟨g0, h, rfl, rfl, rfl, rfl, stepG_same rfl rfl rfl w⟩)
 | task hk h =>
   rename_i k
   rcases h.next hI with ⟨v, q⟩ | ⟨-, g', w', es, lv', e1, e2, e3, e4, e5⟩
   · exact .inr (.inr ⟨k, v, rfl, rfl, rfl, hk, q⟩)
   · exact .inl (way (Stop := fun _ _ _ => True) (by omega) rfl e1 e2 e3 e4 (.task hk e5))
 | bpark hk h => cases hrun
 | r0 h =>
   left
   rcases h.next hI with ⟨C, n, val, hC, hstop⟩ | ⟨-, g', w', es, lv', e1, e2, e3, e4, e5⟩
   · obtain ⟨-, hhas, g', hgo, m₂, hk⟩ := hstop
     have hbk : Tr Sp Own Rd j w.heap.size (t ++ MemOp.ofEvents (i + 1) g.frame.fn g.frame.place #[Go.ConcR.mk (.releaseMerge (stA F.Wg))]) := by
       have hmem : ∀ op ∈ MemOp.ofEvents (i + 1) g.frame.fn g.frame.place #[Go.ConcR.mk (.releaseMerge (stA F.Wg))], op.g = i + 1 ∧ op.act = .mark (.releaseMerge (stA F.Wg)) := by
         intro op hop
         rw [ofEvents_eq] at hop
         simp [Go.ConcR.ofEvent_mk] at hop
         subst hop
         exact ⟨rfl, rfl⟩
       refine hcom.tr.appW hcom.lay (by omega) (by omega) (fun op hop => ⟨(hmem op hop).1, fun z hz => ?_⟩) (fun op hop z b hz => ?_) fun op hop z hz => ?_
       · rw [(hmem op hop).2] at hz; cases hz
       · rw [(hmem op hop).2] at hz; cases hz
       · rw [(hmem op hop).2] at hz; cases hz
     exact workerGo (d' := ⟨6, none, 0, .fuel m₂⟩) L hR ha hcs hcom hi hg hgo (fun k hk _ => RelyS.refl _ _ _) hI (fun _ _ => rfl) hcom.lay hbk (hph.still htd) (.k1 hC (by simpa using hhas) hk) (by rw [hdf]; rfl)
       (fun _ => .inl ⟨t.size, RelBy.new (by rw [hdk, hdf]) _ _⟩) hwg htd (hph.late (late (by omega) (by omega)) (by simp) rfl) (fun tag' ht _ => (hmode.counted hi (by rw [hstg]; omega) (by simp)).retag ht) (fun e => absurd e (nr (by omega))) (.inl ⟨by rw [hst]; simp, by rw [hst]; simp [cntS]⟩)
   · exact way (Stop := F.R0 (Rd (i + 1))) (by omega) rfl e1 e2 e3 e4 (.r0 e5)
 | k1 hC hh h =>
   left
   rcases Goes.cases h with hstop | ⟨m', rfl, hstep⟩
   · obtain ⟨_, g', hgo, m₂, hk⟩ := hstop w (RW.refl w)
     exact book (d' := ⟨5, none, 1, .fuel m₂⟩) hgo (.refl F.Wg w) hwg (by intro e he; simp at he; subst he; exact .inl rfl) (by intro jx e he; exact .inl (by have := Array.mem_of_getElem? he; simp at this; subst this; rfl)) (.d1 hC hh hk) rfl (by omega)
       (hph.late (late (by omega) (by omega)) (by simp) rfl) (hmode.counted hi (by rw [hstg]; omega) (by simp)) (.inl ⟨by simp, by simp [cntS]⟩)
   · obtain ⟨g', w', es, hgo, ⟨rfl, rfl⟩, hg'⟩ := hstep w (RW.refl w)
     exact idle hgo rfl (Nat.lt_succ_self _) (.k1 hC hh hg') (by omega)
 | d1 hC hh h =>
   left
   rcases Goes.cases h with hstop | ⟨m', rfl, hstep⟩
   · obtain ⟨_, hall⟩ := hstop w (RW.refl w)
     have hlate := late (by omega) (by omega)
     have hc1 : cntS (stg D i) = 1 := by rw [hstg]; rfl
     have hV1 : 1 ≤ Vs j (stg D) := by have := le_sumTo (f := fun x => cntS (stg D x)) hi; simp only [Vs]; omega
     have bk2 : ∀ e ∈ #[rd (stA F.Wg), wr (stA F.Wg)], Bk F.Wg e := by intro e he; simp at he; rcases he with rfl | rfl <;> exact bk_cell' _ _ rfl
     have df2 : ∀ jx e, (#[rd (stA F.Wg), wr (stA F.Wg)] : Array Event)[jx]? = some e → (MemAct.ofEvent e).touch? = none ∨ 0 < deafBehind 1 ((#[rd (stA F.Wg), wr (stA F.Wg)] : Array Event).extract 0 jx) := by
       intro jx e he
       match jx, he with
       | 0, _ => exact .inr (by simp [deafBehind])
       | 1, _ => exact .inr (by simp [deafBehind, rd])
       | jx + 2, he => simp at he
     have opq : OpenS j (stg D) → OpenS j (upd (stg D) i 1) := fun h a ha => by
       by_cases e : a = i
       · subst e; rw [upd_same]; exact .inr rfl
       · rw [upd_ne _ _ e]; exact h a ha
     have hq1 : Vs j (upd (stg D) i 1) + 1 = Vs j (stg D) := by have := Vs_upd (stg D) 1 hi; rw [hc1] at this; simpa [cntS] using this
     cases hmode with
     | opn h1 h2 h3 =>
       obtain ⟨v, hv⟩ : ∃ v, Vs j (stg D) + pendT tag = v + 1 := ⟨Vs j (stg D) + pendT tag - 1, by omega⟩
       rw [hv] at hwg
       have hw1 : WgAt F.ty F.Wg w (((v : Nat) + 1) * KK + ((0 : Nat) : Int)) 0 := by simpa using hwg
       obtain ⟨g', hgo, _, hq⟩ := hall v 0 (by omega) (by omega) hw1
       obtain ⟨q, hq⟩ := hq (by omega)
       refine book (d' := ⟨1, none, 1, .fuel q⟩) hgo (aside_setCell w (stA F.Wg) _) (hwg.setSt _) bk2 df2 (.quit hq) rfl (by omega) (hph.late hlate (by simp) rfl) ?_ (.inl ⟨by simp, by simp [cntS]⟩)
       have e : ((v : Nat) : Int) * KK + ((0 : Nat) : Int) = ((Vs j (upd (stg D) i 1) + pendT tag : Nat) : Int) * KK := by rw [show Vs j (upd (stg D) i 1) + pendT tag = v by omega]; simp
       rw [e]
       exact .opn h1 (opq h2) (fun vs ev => by have := h3 vs ev; show Vs j (upd (stg D) i 1) ≤ vs ∧ 1 ≤ vs; omega)
     | reg h1 h2 h3 =>
       obtain ⟨v, hv⟩ : ∃ v, Vs j (stg D) = v + 1 := ⟨Vs j (stg D) - 1, by omega⟩
       rw [hv] at hwg
       have hw1 : WgAt F.ty F.Wg w (((v : Nat) + 1) * KK + ((1 : Nat) : Int)) 0 := by simpa using hwg
       obtain ⟨g', hgo, hl, hq⟩ := hall v 1 (by omega) (by omega) hw1
       by_cases hv0 : v = 0
       · subst hv0
         obtain ⟨m₂, hk⟩ := hl ⟨rfl, rfl⟩
         have hsp : RelyS (Rd (i + 1)) (Own (i + 1)) w (w.setCell (stA F.Wg) (.int .u64 (((0 : Nat) : Int) * KK + ((1 : Nat) : Int)))) := hcom.turned (spec_cell hcom.spc.1) _ (by omega)
         have hhas' := (rw_of (F := F) (n := 0) hC hh hsp ⟨⟨_, _, hwg.setSt _⟩, by rw [(aside_setCell w (stA F.Wg) _).block F.Td L.blocks.1.symm]; exact hI.2.1, by rw [(aside_setCell w (stA F.Wg) _).block F.Bk L.blocks.2.1.symm]; exact hI.2.2⟩).2
         refine book (d' := ⟨4, none, 1, .fuel m₂⟩) hgo (aside_setCell w (stA F.Wg) _) (hwg.setSt _) bk2 df2 (.d2 hC hhas' hk) rfl (by omega) (hph.late hlate (by simp) rfl) ?_ (.inl ⟨by simp, by simp [cntS]⟩)
         have hoth : ∀ a, a < j → a ≠ i → stg D a = 1 := fun a ha e => by
           have c0 := Vs_others hi hv hc1 a ha e
           have := h2 a ha
           simp only [cntS] at c0
           split at c0 <;> omega
         have := Mode'.last (j := j) (s := upd (stg D) i 4) (tag := tag) i h1 hi (by rw [upd_same]; simp) (fun a ha e => by rw [upd_ne _ _ e]; exact hoth a ha e)
         rw [upd_same] at this
         simpa using this
       · obtain ⟨q, hq⟩ := hq (by omega)
         refine book (d' := ⟨1, none, 1, .fuel q⟩) hgo (aside_setCell w (stA F.Wg) _) (hwg.setSt _) bk2 df2 (.quit hq) rfl (by omega) (hph.late hlate (by simp) rfl) ?_ (.inl ⟨by simp, by simp [cntS]⟩)
         have e : ((v : Nat) : Int) * KK + ((1 : Nat) : Int) = ((Vs j (upd (stg D) i 1) : Nat) : Int) * KK + 1 := by rw [show Vs j (upd (stg D) i 1) = v by omega]; simp
         rw [e]
         exact .reg h1 (opq h2) (by show 1 ≤ Vs j (upd (stg D) i 1); omega)
     | last L _ h2 h3 h4 =>
       by_cases e : i = L
       · subst e; omega
       · have := h4 i hi e; omega
     | sema _ h2 => have := h2 i hi; omega
     | fin _ h2 => have := h2 i hi; omega
   · obtain ⟨g', w', es, hgo, ⟨rfl, rfl⟩, hg'⟩ := hstep w (RW.refl w)
     exact idle hgo rfl (Nat.lt_succ_self _) (.d1 hC hh hg') (by omega)
 | d2 hC hh h =>
   left
   rcases Goes.cases h with hstop | ⟨m', rfl, hstep⟩
   · obtain ⟨_, hx⟩ := hstop w (RW.refl w)
     obtain ⟨hW3, hoth, rfl, rfl⟩ := hmode.isLast hi (by rw [hstg]; simp)
     simp only [hstg] at hwg
     obtain ⟨g', hgo, m₂, hk⟩ := hx (by simpa using hwg)
     refine book (d' := ⟨3, none, 1, .fuel m₂⟩) hgo (.refl F.Wg w) hwg (by intro e he; simp at he; subst he; exact bk_cell' _ _ rfl) (by intro jx e he; match jx, he with | 0, _ => exact .inr (by simp [deafBehind]) | jx + 1, he => simp at he) (.d3 hC hh hk) rfl (by omega) (hph.late (late (by omega) (by omega)) (by simp) rfl) ?_ (.inl ⟨by simp, by simp [cntS]⟩)
     have := Mode'.last (j := j) (s := upd (stg D) i 3) (tag := tag) i hW3 hi (by rw [upd_same]; simp) (fun a ha e => by rw [upd_ne _ _ e]; exact hoth a ha e)
     rw [upd_same] at this
     simpa using this
   · obtain ⟨g', w', es, hgo, ⟨rfl, rfl⟩, hg'⟩ := hstep w (RW.refl w)
     exact idle hgo rfl (Nat.lt_succ_self _) (.d2 hC hh hg') (by omega)
 | d3 hC hh h =>
   left
   rcases Goes.cases h with hstop | ⟨m', rfl, hstep⟩
   · obtain ⟨_, hx⟩ := hstop w (RW.refl w)
     obtain ⟨hW3, hoth, rfl, rfl⟩ := hmode.isLast hi (by rw [hstg]; simp)
     simp only [hstg] at hwg
     obtain ⟨g', hgo, m₂, hk⟩ := hx (by simpa using hwg)
     have hsp : RelyS (Rd (i + 1)) (Own (i + 1)) w (w.setCell (stA F.Wg) (.int .u64 0)) := hcom.turned (spec_cell hcom.spc.1) _ (by omega)
     have hhas' := (rw_of (F := F) (n := 0) hC hh hsp ⟨⟨_, _, hwg.setSt _⟩, by rw [(aside_setCell w (stA F.Wg) _).block F.Td L.blocks.1.symm]; exact hI.2.1, by rw [(aside_setCell w (stA F.Wg) _).block F.Bk L.blocks.2.1.symm]; exact hI.2.2⟩).2
     refine book (d' := ⟨2, none, 1, .fuel m₂⟩) hgo (aside_setCell w (stA F.Wg) _) (hwg.setSt 0) (by intro e he; simp at he; subst he; exact bk_cell' _ _ rfl) (by intro jx e he; match jx, he with | 0, _ => exact .inr (by simp [deafBehind]) | jx + 1, he => simp at he) (.d4 hC hhas' hk) rfl (by omega) (hph.late (late (by omega) (by omega)) (by simp) rfl) ?_ (.inl ⟨by simp, by simp [cntS]⟩)
     have := Mode'.last (j := j) (s := upd (stg D) i 2) (tag := tag) i hW3 hi (by rw [upd_same]; simp) (fun a ha e => by rw [upd_ne _ _ e]; exact hoth a ha e)
     rw [upd_same] at this
     simpa using this
   · obtain ⟨g', w', es, hgo, ⟨rfl, rfl⟩, hg'⟩ := hstep w (RW.refl w)
     exact idle hgo rfl (Nat.lt_succ_self _) (.d3 hC hh hg') (by omega)
 | d4 hC hh h =>
   left
   rcases Goes.cases h with hstop | ⟨m', rfl, hstep⟩
   · obtain ⟨_, hmw, hx⟩ := hstop w (RW.refl w)
     obtain ⟨hW3, hoth, rfl, rfl⟩ := hmode.isLast hi (by rw [hstg]; simp)
     simp only [hstg] at hwg
     obtain ⟨g', hgo, q, hq⟩ := hx (by simpa using hwg)
     have hrun' : g'.status = .running := by
       cases q with
       | zero => exact absurd hq.2 (by decide)
       | succ q => exact hq.elim (fun x => absurd x.2 (by decide)) (fun x => x.1)
     refine bookG (d' := ⟨1, none, 1, .fuel q⟩) hgo (aside_setCell w (smA F.Wg) _) (hwg.setSm 1) (es := semEvents (smA F.Wg)) ?_ ?_ (.quit hq) (by simp [deafBehind, semEvents]) (by omega) (hph.late (late (by omega) (by omega)) (by simp) rfl) ?_ (.inl ⟨by simp, by simp [cntS]⟩)
     · intro e he
       simp [semEvents] at he
       rcases he with rfl | rfl | rfl | rfl
       · exact .inl rfl
       · exact bk_cell' _ _ rfl
       · exact bk_cell' _ _ rfl
       · exact .inr (.inl rfl)
     · intro jx e he
       match jx, he with
       | 0, he => simp [semEvents] at he; subst he; exact .inl rfl
       | 1, _ => exact .inr (by simp [deafBehind, semEvents])
       | 2, _ => exact .inr (by simp [deafBehind, semEvents])
       | 3, he => simp [semEvents] at he; subst he; exact .inl rfl
       | jx + 4, he => simp [semEvents] at he
     · intro tag' ht hw
       have hnb := hw hmw hrun'
       have e3 : semT tag' := by
         rcases ht with rfl | ⟨_, rfl⟩
         · cases tag' <;> first | trivial | exact hW3.elim | exact absurd rfl hnb
         · trivial
       simp only [if_true]
       exact .sema e3 fun a ha => by
         by_cases e : a = i
         · subst e; rw [upd_same]
         · rw [upd_ne _ _ e]; exact hoth a ha e
   · obtain ⟨g', w', es, hgo, ⟨rfl, rfl⟩, hg'⟩ := hstep w (RW.refl w)
     exact idle hgo rfl (Nat.lt_succ_self _) (.d4 hC hh hg') (by omega)
 | quit h =>
   left
   rename_i m
   cases m with
   | zero => rw [h.1] at hrun; cases hrun
   | succ q =>
     rcases h with ⟨hf, _⟩ | ⟨_, g', es, hmute, hstep, hq⟩
     · rw [hf] at hrun; cases hrun
     · have hbk : ∀ e ∈ es, Bk F.Wg e := fun e he => Go.ConcR.bk_of_mute (hmute e he)
       have hno : ∀ jx e, es[jx]? = some e → (MemAct.ofEvent e).touch? = none ∨ 0 < deafBehind df (es.extract 0 jx) := fun jx e he => .inl (by
         rcases Go.ConcR.bk_of_mute (Wg := F.Wg) (hmute e (Array.mem_of_getElem? he)) with h1 | h1 | ⟨a, x, rfl, _⟩
         · rw [Go.ConcR.ofEvent_loc_mark h1]; rfl
         · rw [Go.ConcR.ofEvent_loc_mark h1]; rfl
         · have := hmute _ (Array.mem_of_getElem? he); simp [Event.mute] at this)
       exact book (d' := ⟨1, none, deafBehind df es, .fuel q⟩) (hstep w) (.refl F.Wg w) hwg hbk hno (.quit hq) rfl (by omega) (hph.same hst.symm htk.symm) (hmode.same hstg.symm) (.inr ⟨rfl, .fuel (Nat.lt_succ_self _)⟩)
end
end Go.Proofs.YtajnfkmkombajabDoor
