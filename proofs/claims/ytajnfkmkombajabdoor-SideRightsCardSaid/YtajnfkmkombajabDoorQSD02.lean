/-
  Memory that is alike; a program of effects run in company and alone. No program in sight.
-/
import Derived.Test.YtajnfkmkombajabDoorQSD01
set_option linter.unusedVariables false
set_option linter.unusedSimpArgs false
namespace Go.Proofs.YtajnfkmkombajabDoor
open Go
structure Olds where
 is : Nat → Prop
 /-- no block is marked as a string's: == of pointers is told alike -/
 eq : Bool
structure HR (P : Program) (ok : Fn → Prop) (Zo : Olds) (S : Nat → Prop) (ρ : Rho) (M : Nat → Prop) (w W : World) : Prop where
 fn : ∀ b B B', ρ b B → ρ b B' → B = B'
 inj : ∀ b b' B, ρ b B → ρ b' B → b = b'
 obj : ∀ b B, ρ b B → ∃ o O, w.heap[b]? = some o ∧ W.heap[B]? = some O ∧ OR ok ρ o O
 glob : ∀ b B, ρ b B → (b < P.globals.size ↔ B < P.globals.size)
 froz : ∀ b B, ρ b B → Zo.is b → ∃ c t, w.heap[b]? = some (.cells c t (0, c.size))
 old : ∀ b B, ρ b B → Zo.is b → S B
 new : ∀ b B, ρ b B → ¬ Zo.is b → M B
 mlt : ∀ B, M B → B < W.heap.size
 size : ∀ b, Zo.is b → b < w.heap.size
 glo : P.globals.size ≤ w.heap.size
 thaw : ∀ b B, ρ b B → ¬ Zo.is b → ∀ c t f, w.heap[b]? = some (.cells c t f) → f = (0, 0)
 tight : ∀ b B, ρ b B → (Zo.eq = true ∨ ¬ Zo.is b) → ∀ C t F, W.heap[B]? = some (.cells C t F) → F = (0, 0)
 gW : P.globals.size ≤ W.heap.size
structure Moves (M M' : Nat → Prop) (W W' : World) : Prop where
 os : W'.os = W.os
 out : W'.output = W.output
 tape : W'.tape = W.tape
 drawn : W.drawn ≤ W'.drawn
 size : W.heap.size ≤ W'.heap.size
 keep : ∀ B, B < W.heap.size → ¬ M B → W'.heap[B]? = W.heap[B]?
 mine : ∀ B, M' B ↔ (M B ∨ (W.heap.size ≤ B ∧ B < W'.heap.size))
theorem Moves.refl (M : Nat → Prop) (W : World) : Moves M M W W := ⟨rfl, rfl, rfl, Nat.le_refl _, Nat.le_refl _, fun _ _ _ => rfl, fun B => ⟨.inl, fun h => h.elim id (fun ⟨a, b⟩ => by omega)⟩⟩
theorem Moves.trans {M M' M'' : Nat → Prop} {W W' W'' : World} (h : Moves M M' W W') (k : Moves M' M'' W' W'') : Moves M M'' W W'' := by
 have hs := h.size; have ks := k.size
 refine ⟨k.os.trans h.os, k.out.trans h.out, k.tape.trans h.tape, Nat.le_trans h.drawn k.drawn, Nat.le_trans hs ks, fun B hB hM => ?_, fun B => ?_⟩
 · rw [k.keep B (by omega) (fun q => ((h.mine B).1 q).elim hM (fun ⟨a, _⟩ => by omega)), h.keep B hB hM]
 · rw [k.mine, h.mine]
   constructor
   · rintro ((q | ⟨a, b⟩) | ⟨a, b⟩)
     · exact .inl q
     · exact .inr ⟨a, by omega⟩
     · exact .inr ⟨by omega, b⟩
   · rintro (q | ⟨a, b⟩)
     · exact .inl (.inl q)
     · rcases Nat.lt_or_ge B W'.heap.size with q | q
       · exact .inl (.inr ⟨a, q⟩)
       · exact .inr ⟨q, b⟩
def EvOk (S M : Nat → Prop) (e : Event) : Prop :=
 match e.loc with
 | .cell A => e.sync = false ∧ (if e.write then M A.block else S A.block ∨ M A.block)
 | .obj R => e.sync = false ∧ (if e.write then M R else S R ∨ M R)
 | .mark m => idleMark m = true
 | _ => False
theorem EvOk.mono {S M M' : Nat → Prop} (h : ∀ B, M B → M' B) {e : Event} (k : EvOk S M e) : EvOk S M' e := by
 unfold EvOk at *
 split at k
 · refine ⟨k.1, ?_⟩
   have := k.2
   split at this
   · next q => rw [if_pos q]; exact h _ this
   · next q => rw [if_neg q]; exact this.imp id (h _)
 · refine ⟨k.1, ?_⟩
   have := k.2
   split at this
   · next q => rw [if_pos q]; exact h _ this
   · next q => rw [if_neg q]; exact this.imp id (h _)
 · exact k
 · exact k
def _root_.Go.Result.world {α : Type} : Result α → World
 | .ok _ w => w
 | .halt _ w => w
section
variable {P : Program} {ok : Fn → Prop} {Zo : Olds} {S M : Nat → Prop} {ρ : Rho} {w W : World}
theorem HR.ext (h : HR P ok Zo S ρ M w W) : Ext P ρ ρ := ⟨fun _ _ q => q, h.fn, h.inj, h.glob⟩
theorem HR.cell (h : HR P ok Zo S ρ M w W) {a A : Addr} (ha : AR ρ a A) {v : Value} (hv : w.cell? a = some v) : ∃ V, W.cell? A = some V ∧ VR ok ρ v V := by
 obtain ⟨B, hB, rfl⟩ := ha
 obtain ⟨o, O, ho, hO, hr⟩ := h.obj _ _ hB
 unfold World.cell? at *
 rw [ho] at hv
 simp only [hO]
 cases hr with
 | cells t hc hf =>
   simp only at hv ⊢
   split at hv
   · cases hv
   · next q => rw [if_neg q]; exact hc.get hv
 | @pre c C t f F hs hx hfz =>
   simp only at hv ⊢
   split at hv
   · cases hv
   · next q =>
     rw [if_neg q]
     have hi := (Array.getElem?_eq_some_iff.1 hv).1
     exact ⟨_, Array.getElem?_eq_getElem (Nat.lt_of_lt_of_le hi hs), hx _ _ _ hv (Array.getElem?_eq_getElem (Nat.lt_of_lt_of_le hi hs))⟩
 | number | map | iterNil | iter => cases hv
theorem HR.far (h : HR P ok Zo S ρ M w W) {a A : Addr} (ha : AR ρ a A) (b : Bool) (v : Value) : (∃ e, plainHalt e = true ∧ w.farLoad P a b = .error e) ∧ ∃ e, plainHalt e = true ∧ w.farStore P a v b = .error e := by
 obtain ⟨B, hB, rfl⟩ := ha
 obtain ⟨o, O, ho, hO, hr⟩ := h.obj _ _ hB
 unfold World.farLoad World.farStore World.noCell
 rw [ho]
 cases hr <;> exact ⟨⟨_, rfl, rfl⟩, ⟨_, rfl, rfl⟩⟩
theorem HR.reads (h : HR P ok Zo S ρ M w W) {b B : Nat} (hb : ρ b B) : S B ∨ M B := by
 rcases Classical.em (Zo.is b) with q | q
 · exact .inl (h.old _ _ hb q)
 · exact .inr (h.new _ _ hb q)
theorem HR.shape (h : HR P ok Zo S ρ M w W) {b B : Nat} (hb : ρ b B) : ShR (w.shape? b) (W.shape? B) := by
 obtain ⟨o, O, ho, hO, hr⟩ := h.obj _ _ hb
 unfold World.shape?
 rw [ho, hO]
 cases hr with
 | cells t hc hf => exact .inl (by simp [hc.1])
 | @pre c C t f F hs hx hfz => exact .inr ⟨t, c.size, C.size, rfl, rfl, hs⟩
 | number | map | iterNil | iter => exact .inl rfl
theorem HR.blt (h : HR P ok Zo S ρ M w W) {b B : Nat} (hb : ρ b B) : b < w.heap.size ∧ B < W.heap.size := by
 obtain ⟨o, O, ho, hO, _⟩ := h.obj _ _ hb
 exact ⟨(Array.getElem?_eq_some_iff.1 ho).1, (Array.getElem?_eq_some_iff.1 hO).1⟩
theorem HR.draw (h : HR P ok Zo S ρ M w W) {w' W' : World} (hw : w'.heap = w.heap) (hW : W'.heap = W.heap) : HR P ok Zo S ρ M w' W' :=
 ⟨h.fn, h.inj, fun b B q => by rw [hw, hW]; exact h.obj b B q, h.glob, fun b B q hb => by rw [hw]; exact h.froz b B q hb, h.old, h.new, fun B q => by rw [hW]; exact h.mlt B q, by rw [hw]; exact h.size, by rw [hw]; exact h.glo, by rw [hw]; exact h.thaw, by rw [hW]; exact h.tight, by rw [hW]; exact h.gW⟩
theorem HR.rely (h : HR P ok Zo S ρ M w W) {W' : World} (hs : W.heap.size ≤ W'.heap.size) (hk : ∀ B, B < W.heap.size → S B ∨ M B → W'.heap[B]? = W.heap[B]?) : HR P ok Zo S ρ M w W' :=
 ⟨h.fn, h.inj, fun b B q => by rw [hk B (h.blt q).2 (h.reads q)]; exact h.obj b B q, h.glob, h.froz, h.old, h.new, fun B q => Nat.lt_of_lt_of_le (h.mlt B q) hs, h.size, h.glo, h.thaw, fun b B q e C t F hC => h.tight b B q e C t F (by rw [← hk B (h.blt q).2 (h.reads q)]; exact hC), Nat.le_trans h.gW hs⟩
theorem HR.push (h : HR P ok Zo S ρ M w W) {o O : Obj} (ho : OR ok ρ o O) (hth : thawed o = true ∧ thawed O = true) :
   HR P ok Zo S (fun b B => ρ b B ∨ (b = w.heap.size ∧ B = W.heap.size)) (fun B => M B ∨ (W.heap.size ≤ B ∧ B < W.heap.size + 1)) { w with heap := w.heap.push o } { W with heap := W.heap.push O } := by
 have e : ∀ b B, ρ b B → (ρ b B ∨ (b = w.heap.size ∧ B = W.heap.size)) := fun _ _ q => .inl q
 have hgl := h.glo; have hgW := h.gW
 have hnew : ¬ Zo.is w.heap.size := fun q => Nat.lt_irrefl _ (h.size _ q)
 refine ⟨?_, ?_, ?_, ?_, ?_, ?_, ?_, ?_, ?_, ?_, ?_, ?_, ?_⟩
 · rintro b B B' (q | ⟨rfl, rfl⟩) (q' | ⟨q1, q2⟩)
   · exact h.fn _ _ _ q q'
   · have := (h.blt q).1; omega
   · have := (h.blt q').1; omega
   · exact q2.symm
 · rintro b b' B (q | ⟨rfl, rfl⟩) (q' | ⟨q1, q2⟩)
   · exact h.inj _ _ _ q q'
   · have := (h.blt q).2; omega
   · have := (h.blt q').2; omega
   · exact q1.symm
 · rintro b B (q | ⟨rfl, rfl⟩)
   · obtain ⟨o', O', h1, h2, h3⟩ := h.obj _ _ q
     have hb := h.blt q
     refine ⟨o', O', ?_, ?_, h3.ext e⟩
     · rw [Array.getElem?_push_lt hb.1, ← h1, Array.getElem?_eq_getElem hb.1]
     · rw [Array.getElem?_push_lt hb.2, ← h2, Array.getElem?_eq_getElem hb.2]
   · exact ⟨o, O, by simp, by simp, ho.ext e⟩
 · rintro b B (q | ⟨rfl, rfl⟩)
   · exact h.glob _ _ q
   · constructor <;> intro q <;> omega
 · rintro b B (q | ⟨rfl, rfl⟩) hb
   · obtain ⟨c, t, hc⟩ := h.froz _ _ q hb
     have hb' : b < w.heap.size := (h.blt q).1
     refine ⟨c, t, ?_⟩
     rw [Array.getElem?_push_lt hb', ← hc, Array.getElem?_eq_getElem hb']
   · exact absurd hb hnew
 · rintro b B (q | ⟨rfl, rfl⟩) hb
   · exact h.old _ _ q hb
   · exact absurd hb hnew
 · rintro b B (q | ⟨rfl, rfl⟩) hb
   · exact .inl (h.new _ _ q hb)
   · exact .inr ⟨Nat.le_refl _, Nat.lt_succ_self _⟩
 · rintro B (q | q)
   · have := h.mlt B q; simp; omega
   · simpa using q.2
 · intro b hb
   have := h.size b hb
   simp; omega
 · simp; omega
 · rintro b B (hb | ⟨rfl, rfl⟩) hn c t f hc
   · have hl := (h.blt hb).1
     rw [Array.getElem?_push_lt hl] at hc
     exact h.thaw b B hb hn c t f (by rw [Array.getElem?_eq_getElem hl]; exact hc)
   · simp only [Array.getElem?_push_size, Option.some.injEq] at hc
     subst hc
     simpa [thawed] using hth.1
 · rintro b B (hb | ⟨rfl, rfl⟩) q C t F hC
   · have hl := (h.blt hb).2
     rw [Array.getElem?_push_lt hl] at hC
     exact h.tight b B hb q C t F (by rw [Array.getElem?_eq_getElem hl]; exact hC)
   · simp only [Array.getElem?_push_size, Option.some.injEq] at hC
     subst hC
     simpa [thawed] using hth.2
 · simp; omega
def sameRow : Obj → Obj → Prop
 | .cells c _ f, .cells c' _ f' => c'.size = c.size ∧ f' = f
 | .cells .., _ => False
 | _, .cells .. => False
 | _, _ => True
theorem HR.turn (h : HR P ok Zo S ρ M w W) {b B : Nat} (hb : ρ b B) (hn : ¬ Zo.is b) {o O : Obj} (hr : OR ok ρ o O) {w' W' : World} (hw : ∀ i, w'.heap[i]? = if i = b then some o else w.heap[i]?) (hW : ∀ i, W'.heap[i]? = if i = B then some O else W.heap[i]?)
   (hs : w'.heap.size = w.heap.size) (hS : W'.heap.size = W.heap.size) (ht : ∀ p, w.heap[b]? = some p → sameRow p o) (hT : ∀ p, W.heap[B]? = some p → sameRow p O) : HR P ok Zo S ρ M w' W' := by
 obtain ⟨o₀, O₀, ho₀, hO₀, -⟩ := h.obj _ _ hb
 refine ⟨h.fn, h.inj, fun x X q => ?_, h.glob, fun x X q hx => ?_, h.old, h.new, fun X q => by rw [hS]; exact h.mlt X q, by rw [hs]; exact h.size, by rw [hs]; exact h.glo, fun x X q hx c t f hc => ?_, fun x X q e C t F hC => ?_, by rw [hS]; exact h.gW⟩
 · rw [hw, hW]
   by_cases e : x = b
   · subst e
     obtain rfl := h.fn _ _ _ q hb
     exact ⟨o, O, if_pos rfl, if_pos rfl, hr⟩
   · rw [if_neg e, if_neg (show ¬ X = B from fun q' => e (h.inj _ _ _ (q' ▸ q) hb))]
     exact h.obj _ _ q
 · rw [hw, if_neg (fun e : x = b => hn (e ▸ hx))]
   exact h.froz _ _ q hx
 · rw [hw] at hc
   split at hc
   · next e2 =>
     subst e2
     cases hc
     have hp := ht _ ho₀
     cases o₀ with
     | cells c' t' f' => rw [hp.2]; exact h.thaw x X q hx c' t' f' ho₀
     | _ => exact hp.elim
   · exact h.thaw x X q hx c t f hc
 · rw [hW] at hC
   split at hC
   · next e2 =>
     subst e2
     cases hC
     have hp := hT _ hO₀
     cases O₀ with
     | cells C' t' F' => rw [hp.2]; exact h.tight x X q e C' t' F' hO₀
     | _ => exact hp.elim
   · exact h.tight x X q e C t F hC
theorem setCell_heap (x : World) (y : Addr) (z : Value) {c : Array Value} {t : TypeId} {f : Nat × Nat} (h : x.heap[y.block]? = some (.cells c t f)) (i : Nat) :
   (x.setCell y z).heap[i]? = if i = y.block then some (.cells (if y.spot.isSome then c else c.setIfInBounds y.off z) t f) else x.heap[i]? := by
 unfold World.setCell
 simp only [Array.getElem?_modify]
 by_cases e : y.block = i
 · rw [if_pos e, if_pos e.symm, ← e, h]; rfl
 · rw [if_neg e, if_neg (fun q => e q.symm)]
theorem HR.store (h : HR P ok Zo S ρ M w W) {a A : Addr} (ha : AR ρ a A) {v V u : Value} (hv : VR ok ρ v V) (hc : w.cell? a = some u) (hf : w.frozen? a = false) :
   (∃ U, W.cell? A = some U) ∧ W.frozen? A = false ∧ M A.block ∧ HR P ok Zo S ρ M (w.setCell a v) (W.setCell A V) := by
 obtain ⟨U, hU, _⟩ := h.cell ha hc
 refine ⟨⟨U, hU⟩, ?_⟩
 obtain ⟨B, hB, rfl⟩ := ha
 obtain ⟨o, O, ho, hO, hr⟩ := h.obj _ _ hB
 cases hr with
 | @cells c C t f F hcs hfz =>
   have hoff : a.off < c.size := by
     unfold World.cell? at hc
     rw [ho] at hc
     simp only at hc
     split at hc
     · cases hc
     · exact (Array.getElem?_eq_some_iff.1 hc).1
   have hn : ¬ Zo.is a.block := by
     rcases Classical.em (Zo.is a.block) with q | q
     · obtain ⟨c', t', hfr⟩ := h.froz _ _ hB q
       rw [ho] at hfr
       cases hfr
       unfold World.frozen? at hf
       rw [ho] at hf
       unfold World.cell? at hc
       rw [ho] at hc
       simp only at hc hf
       split at hc
       · cases hc
       · have := (Array.getElem?_eq_some_iff.1 hc).1
         simp at hf
         omega
     · exact q
   refine ⟨?_, h.new _ _ hB hn, ?_⟩
   · unfold World.frozen? at hf ⊢
     rw [ho] at hf
     rw [hO]
     simp only at hf ⊢
     rcases hq : (decide (F.1 ≤ a.off) && decide (a.off < F.2)) with _ | _
     · rfl
     · rw [hfz _ hoff hq] at hf; cases hf
   · refine h.turn hB hn (.cells t ?_ ?_) (setCell_heap w a v ho) (setCell_heap W ⟨B, a.off, a.spot⟩ V hO) (by unfold World.setCell; simp) (by unfold World.setCell; simp) (fun p hp => ?_) (fun p hp => ?_)
     rotate_left
     · intro i hi
       refine hfz i ?_
       split at hi
       · exact hi
       · simpa using hi
     · rw [ho] at hp; cases hp
       refine ⟨?_, rfl⟩
       split <;> simp
     · rw [hO] at hp; cases hp
       refine ⟨?_, rfl⟩
       simp only
       split <;> simp
     split
     · exact hcs
     · exact hcs.set _ hv
 | @pre c C t f F hs hx hfz =>
   have hoff : a.off < c.size := by
     unfold World.cell? at hc
     rw [ho] at hc
     simp only at hc
     split at hc
     · cases hc
     · exact (Array.getElem?_eq_some_iff.1 hc).1
   have hn : ¬ Zo.is a.block := by
     rcases Classical.em (Zo.is a.block) with q | q
     · obtain ⟨c', t', hfr⟩ := h.froz _ _ hB q
       rw [ho] at hfr
       cases hfr
       unfold World.frozen? at hf
       rw [ho] at hf
       simp at hf
       omega
     · exact q
   refine ⟨?_, h.new _ _ hB hn, ?_⟩
   · unfold World.frozen? at hf ⊢
     rw [ho] at hf
     rw [hO]
     simp only at hf ⊢
     rcases hq : (decide (F.1 ≤ a.off) && decide (a.off < F.2)) with _ | _
     · rfl
     · rw [hfz _ hoff hq] at hf; cases hf
   · refine h.turn hB hn (.pre t ?_ ?_ ?_) (setCell_heap w a v ho) (setCell_heap W ⟨B, a.off, a.spot⟩ V hO) (by unfold World.setCell; simp) (by unfold World.setCell; simp) (fun p hp => ?_) (fun p hp => ?_)
     rotate_left
     · simp only
       split
       · exact hx
       · intro i u U hu hU
         by_cases e : a.off = i
         · subst e
           rw [Array.getElem?_setIfInBounds_self_of_lt hoff] at hu
           rw [Array.getElem?_setIfInBounds_self_of_lt (Nat.lt_of_lt_of_le hoff hs)] at hU
           cases hu; cases hU; exact hv
         · rw [Array.getElem?_setIfInBounds_ne e] at hu hU
           exact hx i u U hu hU
     · intro i hi
       refine hfz i ?_
       split at hi
       · exact hi
       · simpa using hi
     · rw [ho] at hp; cases hp
       refine ⟨?_, rfl⟩
       split <;> simp
     · rw [hO] at hp; cases hp
       refine ⟨?_, rfl⟩
       simp only
       split <;> simp
     simp only
     split
     · exact hs
     · simpa using hs
 | number | map | iterNil | iter =>
   unfold World.cell? at hc
   rw [ho] at hc
   cases hc
theorem HR.own (h : HR P ok Zo S ρ M w W) {r R : Nat} (hr : ρ r R) {o : Obj} (ho : w.heap[r]? = some o) (hc : o.free = true) : ¬ Zo.is r := by
 rcases Classical.em (Zo.is r) with q | q
 · obtain ⟨c, t, hfr⟩ := h.froz _ _ hr q
   rw [ho] at hfr
   cases hfr
   cases hc
 · exact q
end
theorem VR.plain {ok : Fn → Prop} {ρ : Rho} {v V : Value} (h : VR ok ρ v V) (hp : plainV v = true) : plainV V = true := by
 cases h <;> first | exact hp | cases hp
def Same {α : Type} (P : Program) (ok : Fn → Prop) (RA : Rho → α → α → Prop) (Zo : Olds) (Sh : Nat → Prop) (s S : Sem α) (ρ : Rho) (M : Nat → Prop) (w W : World) (es ES : Array Event) : Prop :=
 (∃ h w', plainHalt h = true ∧ (s.runT P w es).1 = .halt h w') ∨
   (∃ a b w' W' ρ' M' es' new, s.runT P w es = (.ok a w', es') ∧ S.runT P W ES = (.ok b W', ES ++ new) ∧ RA ρ' a b ∧ Ext P ρ ρ' ∧ HR P ok Zo Sh ρ' M' w' W' ∧ Moves M M' W W' ∧ w'.tape = w.tape ∧ w'.drawn + W.drawn = w.drawn + W'.drawn ∧ w.heap.size ≤ w'.heap.size ∧ ∀ e ∈ new, EvOk Sh M' e)
theorem Same.ahead {α : Type} {P : Program} {ok : Fn → Prop} {RA : Rho → α → α → Prop} {Zo : Olds} {Sh : Nat → Prop} {s S s1 S1 : Sem α} {ρ ρ1 : Rho} {M M1 : Nat → Prop} {w W w1 W1 : World} {es ES es1 : Array Event} {ev : Array Event}
   (h : Same P ok RA Zo Sh s1 S1 ρ1 M1 w1 W1 es1 (ES ++ ev)) (h1 : s.runT P w es = s1.runT P w1 es1) (h2 : S.runT P W ES = S1.runT P W1 (ES ++ ev)) (he : Ext P ρ ρ1) (hm : Moves M M1 W W1) (ht : w1.tape = w.tape)
   (hd : w1.drawn + W.drawn = w.drawn + W1.drawn) (hs : w.heap.size ≤ w1.heap.size) (hev : ∀ e ∈ ev, EvOk Sh M1 e) : Same P ok RA Zo Sh s S ρ M w W es ES := by
 rcases h with ⟨x, w', hp, h⟩ | ⟨a, b, w', W', ρ', M', es', new, k1, k2, k3, k4, k5, k6, k7, k8, k9, k10⟩
 · exact .inl ⟨x, w', hp, by rw [h1]; exact h⟩
 · refine .inr ⟨a, b, w', W', ρ', M', es', ev ++ new, by rw [h1]; exact k1, by rw [h2, k2, Array.append_assoc], k3, he.trans k4, k5, hm.trans k6, k7.trans ht, by omega, by omega, fun e q => ?_⟩
   rcases Array.mem_append.1 q with q | q
   · exact (hev e q).mono (fun B hB => (k6.mine B).2 (.inl hB))
   · exact k10 e q
theorem ask_drawn {α : Type} : ∀ (x : Ask α) (w : World), w.drawn ≤ (w.ask x).2.drawn := by
 intro x
 induction x with
 | done a => intro w; exact Nat.le_refl _
 | ask what range k ih =>
   intro w
   unfold World.ask
   simp only
   split
   · exact ih _ _
   · exact Nat.le_trans (Nat.le_succ _) (ih _ { w with drawn := w.drawn + 1 })
theorem sys_drawn (c : Sys) (w : World) : w.drawn ≤ (w.sys c).2.drawn := by
 have h := ask_drawn (Kernel.perform c w.os) w
 unfold World.sys
 split
 · exact Nat.le_refl _
 · next r os w' e => rw [e] at h; exact h
theorem farStore_drawn {P : Program} {w w' : World} {a : Addr} {v : Value} {b : Bool} {l : List Addr} (h : w.farStore P a v b = .ok (w', l)) : w'.drawn = w.drawn := by
 unfold World.farStore at h
 split at h
 · split at h
   · next r e =>
     cases h
     unfold World.viewStore at e
     simp only [bind, Except.bind, pure, Except.pure] at e
     repeat' split at e
     all_goals first | cases e | skip
     all_goals rfl
   · cases h
 · cases h
theorem runT_drawn {α : Type} (P : Program) : ∀ (S : Sem α) (W : World) (ES : Array Event), W.drawn ≤ (Go.Result.world (S.runT P W ES).1).drawn := by
 intro S
 induction S with
 | pure a => intro W ES; exact Nat.le_refl _
 | load m a k ih =>
   intro W ES
   simp only [Sem.runT]
   split
   · exact ih _ _ _
   · split
     · exact ih _ _ _
     · exact Nat.le_refl _
 | store m a v k ih =>
   intro W ES
   cases hP : plainV v with
   | false => rw [runT_store_agg P _ _ _ _ _ _ hP]; exact Nat.le_refl _
   | true =>
     rw [runT_store P _ _ _ _ _ _ hP]
     split
     · split
       · exact Nat.le_refl _
       · exact ih (W.setCell a v) _
     · split
       · next e => rw [← farStore_drawn e]; exact ih _ _
       · exact Nat.le_refl _
 | new o k ih => intro W ES; exact ih _ { W with heap := W.heap.push o } ES
 | shape r k ih => intro W ES; exact ih _ _ _
 | freeze a n k ih =>
   intro W ES
   have : (W.freeze a n).drawn = W.drawn := by unfold World.freeze; split <;> rfl
   rw [← this]
   exact ih _ _
 | frozen a k ih => intro W ES; exact ih _ _ _
 | getObj r k ih =>
   intro W ES
   simp only [Sem.runT]
   split
   · exact Nat.le_refl _
   · exact ih _ _ _
   · exact Nat.le_refl _
 | setObj r o k ih =>
   intro W ES
   simp only [Sem.runT]
   split
   · exact Nat.le_refl _
   · exact ih { W with heap := W.heap.setIfInBounds r o } _
   · exact Nat.le_refl _
 | choose q k ih =>
   intro W ES
   simp only [Sem.runT]
   split
   · exact ih 0 _ _
   · exact Nat.le_trans (Nat.le_succ _) (ih _ { W with drawn := W.drawn + 1 } ES)
 | sys c k ih => intro W ES; exact Nat.le_trans (sys_drawn c W) (ih _ _ _)
 | program k ih => intro W ES; exact ih P _ _
 | mark m k ih => intro W ES; exact ih _ _
 | halt h => intro W ES; exact Nat.le_refl _
set_option maxHeartbeats 1000000 in
theorem SR.sim {α : Type} {P : Program} {ok : Fn → Prop} {RA : Rho → α → α → Prop} {Zo : Olds} {Sh : Nat → Prop} : ∀ {s S : Sem α} {ρ : Rho} {M : Nat → Prop} {w W : World} (es ES : Array Event), SR P ok RA s ρ S → HR P ok Zo Sh ρ M w W →
   (∀ j, W.drawn + j < (Go.Result.world (S.runT P W ES).1).drawn → w.tape (w.drawn + j) = W.tape (W.drawn + j)) → Same P ok RA Zo Sh s S ρ M w W es ES := by
 intro s
 induction s with
 | pure a =>
   rintro S ρ M w W es ES ⟨b, rfl, h⟩ hr ht
   exact .inr ⟨a, b, w, W, ρ, M, es, #[], rfl, by simp [Sem.runT], h, hr.ext, hr, Moves.refl _ _, rfl, rfl, Nat.le_refl _, fun e he => by simp at he⟩
 | load m a k ih =>
   rintro S ρ M w W es ES ⟨A, K, rfl, rfl, ha, hk⟩ hr ht
   cases hv : w.cell? a with
   | none =>
     left
     obtain ⟨⟨e, hp, he⟩, -⟩ := hr.far ha false undef
     simp only [Sem.runT, hv, show ((Go.Mode.plain == Go.Mode.atomic) = false) from rfl, he]
     exact ⟨_, _, hp, rfl⟩
   | some v =>
     obtain ⟨V, hV, hr'⟩ := hr.cell ha hv
     have e1 : (Sem.load .plain a k).runT P w es = (k v).runT P w (es.push ⟨.cell a, false, false⟩) := by simp only [Sem.runT, hv]; rfl
     have e2 : (Sem.load .plain A K).runT P W ES = (K V).runT P W (ES ++ #[⟨.cell A, false, false⟩]) := by simp only [Sem.runT, hV]; rfl
     rw [e2] at ht
     refine (ih v (es.push ⟨.cell a, false, false⟩) (ES ++ #[⟨.cell A, false, false⟩]) (hk v V hr') hr ht).ahead e1 e2 hr.ext (Moves.refl _ _) rfl rfl (Nat.le_refl _) (fun e he => ?_)
     obtain rfl : e = _ := by simpa using he
     obtain ⟨B, hB, rfl⟩ := ha
     exact ⟨rfl, by rw [if_neg (by simp)]; exact hr.reads hB⟩
 | store m a v k ih =>
   rintro S ρ M w W es ES ⟨A, V, K, rfl, rfl, ha, hv, hk⟩ hr ht
   cases hp : plainV v with
   | false => exact .inl ⟨.stuck "store: not the value of one cell", w, rfl, by rw [runT_store_agg P _ _ _ _ _ _ hp]⟩
   | true =>
     have hP : plainV V = true := hv.plain hp
     cases hc : w.cell? a with
     | none =>
       left
       obtain ⟨-, ⟨e, hq, he⟩⟩ := hr.far ha false v
       rw [runT_store P _ _ _ _ _ _ hp]
       simp only [hc, show ((Go.Mode.plain == Go.Mode.atomic) = false) from rfl, he]
       exact ⟨_, _, hq, rfl⟩
     | some u =>
       cases hf : w.frozen? a with
       | true =>
         left
         rw [runT_store P _ _ _ _ _ _ hp]
         simp only [hc, hf, if_true]
         exact ⟨_, _, rfl, rfl⟩
       | false =>
         obtain ⟨⟨U, hU⟩, hF, hM, hr'⟩ := hr.store ha hv hc hf
         have e1 : (Sem.store .plain a v k).runT P w es = k.runT P (w.setCell a v) (es.push ⟨.cell a, true, false⟩) := by rw [runT_store P _ _ _ _ _ _ hp]; simp only [hc, hf]; rfl
         have e2 : (Sem.store .plain A V K).runT P W ES = K.runT P (W.setCell A V) (ES ++ #[⟨.cell A, true, false⟩]) := by rw [runT_store P _ _ _ _ _ _ hP]; simp only [hU, hF]; rfl
         rw [e2] at ht
         have hi := ih (w := w.setCell a v) (W := W.setCell A V) (es.push ⟨.cell a, true, false⟩) (ES ++ #[(⟨.cell A, true, false⟩ : Event)]) hk hr' (fun j hj => ht j hj)
         refine hi.ahead e1 e2 hr.ext ?_ rfl rfl (by unfold World.setCell; simp) (fun e he => ?_)
         · refine ⟨rfl, rfl, rfl, Nat.le_refl _, by unfold World.setCell; simp, fun B hB hn => ?_, fun B => ⟨.inl, fun q => q.elim id (fun ⟨x, y⟩ => by unfold World.setCell at y; simp at y; omega)⟩⟩
           unfold World.setCell
           simp only [Array.getElem?_modify]
           rw [if_neg (fun q : A.block = B => hn (by rw [← q]; exact hM))]
         · obtain rfl : e = _ := by simpa using he
           exact ⟨rfl, by rw [if_pos rfl]; exact hM⟩
 | new o k ih =>
   rintro S ρ M w W es ES (⟨O, K, rfl, ho, hth, hk⟩ | hdd) hr ht
   rotate_left
   · exact .inl (Dead.runT (s := .new o k) hdd w es)
   have hp := hr.push ho hth
   have e2 : (Sem.new O K).runT P W ES = (K W.heap.size).runT P { W with heap := W.heap.push O } (ES ++ #[]) := by simp only [Sem.runT, Array.append_empty]
   rw [e2] at ht
   refine (ih w.heap.size es (ES ++ #[]) (hk _ _ _ ⟨fun _ _ q => .inl q, hp.fn, hp.inj, hp.glob⟩ (.inr ⟨rfl, rfl⟩)) hp ht).ahead rfl e2 ⟨fun _ _ q => .inl q, hp.fn, hp.inj, hp.glob⟩ ?_ rfl rfl (by simp) (fun e he => by simp at he)
   refine ⟨rfl, rfl, rfl, Nat.le_refl _, by simp, fun B hB hn => ?_, fun B => by simp⟩
   rw [Array.getElem?_push_lt hB, Array.getElem?_eq_getElem hB]
 | shape r k ih =>
   rintro S ρ M w W es ES (⟨R, K, rfl, hρ, hk⟩ | hdd) hr ht
   rotate_left
   · exact .inl (Dead.runT (s := .shape r k) hdd w es)
   have e2 : (Sem.shape R K).runT P W ES = (K (W.shape? R)).runT P W (ES ++ #[]) := by simp only [Sem.runT, Array.append_empty]
   rw [e2] at ht
   rcases hk _ _ (hr.shape hρ) with hk | hk
   rotate_left
   · left
     simp only [Sem.runT]
     exact Dead.runT hk w es
   exact (ih (w.shape? r) es (ES ++ #[]) hk hr ht).ahead rfl e2 hr.ext (Moves.refl _ _) rfl rfl (Nat.le_refl _) (fun e he => by simp at he)
 | freeze a n k _ => rintro S ρ M w W es ES h; exact h.elim
 | frozen a k _ => rintro S ρ M w W es ES h _ _; exact .inl (Dead.runT (s := .frozen a k) h w es)
 | getObj r k ih =>
   rintro S ρ M w W es ES ⟨R, K, rfl, hρ, hk⟩ hr ht
   obtain ⟨o, O, ho, hO, hor⟩ := hr.obj _ _ hρ
   cases hfr : o.free with
   | false =>
     left
     cases hor with
     | cells | pre => simp only [Sem.runT, ho]; exact ⟨_, _, rfl, rfl⟩
     | number | map | iterNil | iter => cases hfr
   | true =>
     have e1 : (Sem.getObj r k).runT P w es = (k o).runT P w (es.push ⟨.obj r, false, o.isChan⟩) := by
       simp only [Sem.runT, ho]
       cases hor <;> first | rfl | cases hfr
     have e2 : (Sem.getObj R K).runT P W ES = (K O).runT P W (ES ++ #[(⟨.obj R, false, false⟩ : Event)]) := by
       simp only [Sem.runT, hO]
       cases hor <;> first | rfl | cases hfr
     rw [e2] at ht
     refine (ih o (es.push ⟨.obj r, false, o.isChan⟩) (ES ++ #[(⟨.obj R, false, false⟩ : Event)]) (hk o O hfr hor) hr ht).ahead e1 e2 hr.ext (Moves.refl _ _) rfl rfl (Nat.le_refl _) (fun e he => ?_)
     obtain rfl : e = _ := by simpa using he
     exact ⟨rfl, by rw [if_neg (by simp)]; exact hr.reads hρ⟩
 | setObj r o k ih =>
   rintro S ρ M w W es ES ⟨R, O, K, rfl, hρ, hor, hfo, hk⟩ hr ht
   obtain ⟨o', O', ho, hO, hor'⟩ := hr.obj _ _ hρ
   cases hfr : o'.free with
   | false =>
     left
     cases hor' with
     | cells | pre => simp only [Sem.runT, ho]; exact ⟨_, _, rfl, rfl⟩
     | number | map | iterNil | iter => cases hfr
   | true =>
     have hn := hr.own hρ ho hfr
     have hb := hr.blt hρ
     have hch : o.isChan = false ∧ O.isChan = false := by cases hor <;> first | exact ⟨rfl, rfl⟩ | cases hfo
     have e1 : (Sem.setObj r o k).runT P w es = k.runT P { w with heap := w.heap.setIfInBounds r o } (es.push ⟨.obj r, true, false⟩) := by
       simp only [Sem.runT, ho, hch.1]
       cases hor' <;> first | rfl | cases hfr
     have e2 : (Sem.setObj R O K).runT P W ES = K.runT P { W with heap := W.heap.setIfInBounds R O } (ES ++ #[(⟨.obj R, true, false⟩ : Event)]) := by
       simp only [Sem.runT, hO, hch.2]
       cases hor' <;> first | rfl | cases hfr
     rw [e2] at ht
     have hset : ∀ (x : World) (i : Nat) (y : Obj), i < x.heap.size → ∀ l, (x.heap.setIfInBounds i y)[l]? = if l = i then some y else x.heap[l]? := by
       intro x i y hi l
       rw [Array.getElem?_setIfInBounds]
       by_cases q : i = l
       · rw [if_pos q, if_pos q.symm, if_pos (q ▸ hi)]
       · rw [if_neg q, if_neg (fun z => q z.symm)]
     have hr' := hr.turn (w' := { w with heap := w.heap.setIfInBounds r o }) (W' := { W with heap := W.heap.setIfInBounds R O }) hρ hn hor (hset w r o hb.1) (hset W R O hb.2) (by simp) (by simp) (fun p hp => by rw [ho] at hp; cases hp; cases o' <;> cases o <;> first | trivial | cases hfr | cases hfo) (fun p hp => by rw [hO] at hp; cases hp; cases hor' <;> cases hor <;> first | trivial | cases hfr | cases hfo)
     refine (ih (es.push ⟨.obj r, true, false⟩) (ES ++ #[(⟨.obj R, true, false⟩ : Event)]) hk hr' ht).ahead e1 e2 hr.ext ?_ rfl rfl (by simp) (fun e he => ?_)
     · refine ⟨rfl, rfl, rfl, Nat.le_refl _, by simp, fun B hB hnM => ?_, fun B => ⟨.inl, fun q => q.elim id (fun ⟨x, y⟩ => by simp at y; omega)⟩⟩
       rw [hset W R O hb.2, if_neg (fun q : B = R => hnM (by rw [q]; exact hr.new _ _ hρ hn))]
     · obtain rfl : e = _ := by simpa using he
       exact ⟨rfl, by rw [if_pos rfl]; exact hr.new _ _ hρ hn⟩
 | choose q k ih =>
   rintro S ρ M w W es ES (⟨K, rfl, hk⟩ | hdd) hr ht
   rotate_left
   · exact .inl (Dead.runT (s := .choose q k) hdd w es)
   cases hq : q.forced with
   | true =>
     have e1 : (Sem.choose q k).runT P w es = (k 0).runT P w es := by simp only [Sem.runT, hq, if_true]
     have e2 : (Sem.choose q K).runT P W ES = (K 0).runT P W (ES ++ #[]) := by simp only [Sem.runT, hq, if_true, Array.append_empty]
     rw [e2] at ht
     exact (ih 0 es (ES ++ #[]) (hk 0) hr ht).ahead e1 e2 hr.ext (Moves.refl _ _) rfl rfl (Nat.le_refl _) (fun e he => by simp at he)
   | false =>
     have e1 : (Sem.choose q k).runT P w es = (k (q.cut (w.tape w.drawn q))).runT P { w with drawn := w.drawn + 1 } es := by simp only [Sem.runT, hq]; rfl
     have e2 : (Sem.choose q K).runT P W ES = (K (q.cut (W.tape W.drawn q))).runT P { W with drawn := W.drawn + 1 } (ES ++ #[]) := by simp only [Sem.runT, hq, Array.append_empty]; rfl
     rw [e2] at ht
     have hge : W.drawn + 1 ≤ (Go.Result.world ((K (q.cut (W.tape W.drawn q))).runT P { W with drawn := W.drawn + 1 } (ES ++ #[])).1).drawn := runT_drawn P _ { W with drawn := W.drawn + 1 } _
     have h0 := ht 0 (by omega)
     simp only [Nat.add_zero] at h0
     rw [h0] at e1
     refine (ih _ es (ES ++ #[]) (hk _) (hr.draw (w' := { w with drawn := w.drawn + 1 }) (W' := { W with drawn := W.drawn + 1 }) rfl rfl) (fun j hj => ?_)).ahead e1 e2 hr.ext ⟨rfl, rfl, rfl, Nat.le_succ _, Nat.le_refl _, fun _ _ _ => rfl, fun B => ⟨.inl, fun q => q.elim id (fun ⟨x, y⟩ => by simp at y; omega)⟩⟩ rfl (by simp; omega) (Nat.le_refl _) (fun e he => by simp at he)
     have := ht (j + 1) (by have : W.drawn + 1 + j < _ := hj; omega)
     simpa [Nat.add_assoc, Nat.add_comm 1 j] using this
 | sys c k _ => rintro S ρ M w W es ES h _ _; exact .inl (Dead.runT (s := .sys c k) h w es)
 | program k ih =>
   rintro S ρ M w W es ES (⟨K, rfl, hk⟩ | hdd) hr ht
   rotate_left
   · exact .inl (Dead.runT (s := .program k) hdd w es)
   exact ih P (S := K P) es ES hk hr ht
 | mark m k ih =>
   rintro S ρ M w W es ES (⟨K, rfl, hm, hk⟩ | hdd) hr ht
   rotate_left
   · exact .inl (Dead.runT (s := .mark m k) hdd w es)
   have e2 : (Sem.mark m K).runT P W ES = K.runT P W (ES ++ #[⟨.mark m, false, true⟩]) := by simp only [Sem.runT]; rfl
   rw [e2] at ht
   refine (ih (es.push ⟨.mark m, false, true⟩) (ES ++ #[⟨.mark m, false, true⟩]) hk hr ht).ahead rfl e2 hr.ext (Moves.refl _ _) rfl rfl (Nat.le_refl _) (fun e he => ?_)
   obtain rfl : e = _ := by simpa using he
   exact hm
 | halt h => intro S ρ M w W es ES q _ _; exact .inl ⟨h, w, q, rfl⟩
end Go.Proofs.YtajnfkmkombajabDoor
