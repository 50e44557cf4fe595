/-
  Contracts of plain.Code: an error's number and place.
  From a row's cell on listed sentinels (all ten, and errors.errorType) to what the walks ask.
  The memory that a lone contract of SideRights may come to: what stood there at the beginning, and rows that were made since.
  A slice of one-cell elements that the call owns, wherever in its block it begins: reading, l[1:], appending one element. No program in sight.
  append onto a slice of the call's own, of whatever slice of numbers. No program in sight.
-/
import Derived.Test.YtajnfkmkombajabDoorQSD23
import Derived.Deep.RegionWith
import Derived.Test.YtajnfkmkombajabDoorQSD22
import Derived.LaidSub
import Derived.ArgAppend
import Derived.Deep.RegionLaw
import Derived.Laws.AppendOwnNone
set_option linter.unusedVariables false
set_option linter.unusedSimpArgs false
namespace Go.Proofs.YtajnfkmkombajabDoor
open Go.RowKit
structure Sents (A : Nat → Addr) (w : World) : Prop where
 errs : Errs A [1, 2, 3, 4, 5, 6, 7, 8, 9, 10] w
 typ : ErrType w
 blk : ∀ c, 1 ≤ c → c ≤ 10 → ∃ cs t, w.heap[(A c).block]? = some (.cells cs t (0, 0))
 ne : ∀ c d, 1 ≤ c → c ≤ 10 → 1 ≤ d → d ≤ 10 → c ≠ d → A c ≠ A d
theorem Sents.below {A : Nat → Addr} {w w' : World} (h : Sents A w) (hb : Below w.heap.size w w') : Sents A w' :=
 ⟨h.errs.below hb, h.typ.below hb, fun c h1 h2 => by obtain ⟨cs, t, hc⟩ := h.blk c h1 h2; exact ⟨cs, t, below_heap hb hc (lt_of_block hc)⟩, h.ne⟩
theorem Sents.cell {A : Nat → Addr} {w : World} (h : Sents A w) (c : Nat) (h1 : 1 ≤ c) (h2 : c ≤ 10) : w.cell? ⟨gE c, 0, none⟩ = some (.iface 273 (.pointer (some (A c)))) := by
 have := h.errs.cell c (by simp; omega)
 rw [ev_some _ (by omega)] at this; exact this
def evP (A : Nat → Addr) (c : Nat) : Value := .iface 273 (.pointer (some (A c)))
def tenVs (A : Nat → Addr) : List Value := [evP A 1, evP A 2, evP A 3, evP A 4, evP A 5, evP A 6, evP A 7, evP A 8, evP A 9, evP A 10]
theorem tenVs_get (A : Nat → Addr) (k : Nat) (hk : k < 10) : (tenVs A)[k]? = some (.iface 273 (.pointer (some (A (k + 1))))) := by
 match k, hk with
 | 0, _ => rfl
 | 1, _ => rfl
 | 2, _ => rfl
 | 3, _ => rfl
 | 4, _ => rfl
 | 5, _ => rfl
 | 6, _ => rfl
 | 7, _ => rfl
 | 8, _ => rfl
 | 9, _ => rfl
def CodePost (c : Nat) (at_ : Int) (w : World) (e : Ending) (w' : World) : Prop := e = .returned (.tuple #[.int .i64 c, .int .i64 at_]) ∧ Below w.heap.size w w'
theorem code_nil (w : World) : Calls Tryd.prog 112 #[.nilIface] w (CodePost 0 (-1) w) := by
 go_enter Tryd.func112, Tryd.ntmps112
 go_wp2
 go_ret2
 exact ⟨rfl, Below.refl _ _⟩
set_option maxHeartbeats 1000000 in
set_option maxRecDepth 8000 in
theorem code_bare (A : Nat → Addr) (c : Nat) (h1 : 1 ≤ c) (h10 : c ≤ 10) (w : World) (hS : Sents A w) :
   Calls Tryd.prog 112 #[.iface 273 (.pointer (some (A c)))] w (CodePost c (-1) w) := by
 have HS := Lib.hid hS; clear hS
 go_enter Tryd.func112, Tryd.ntmps112
 go_wp2_with fail
 have b0 : Below w.heap.size w (w.alloc (.cells #[.pointer none] 134)) := (Below.refl _ _).alloc (Nat.le_refl _) _
 refine (as_miss _ _ _ (HS.out.below b0).typ).mono ?_
 rintro e w1 ⟨rfl, b1⟩
 have b01 := btrans b0 b1
 have S1 := HS.out.below b01
 have g1 : w1.cell? ⟨8, 0, none⟩ = some (.iface 273 (.pointer (some (A 1)))) := S1.cell 1 (by decide) (by decide)
 have g2 : w1.cell? ⟨0, 0, none⟩ = some (.iface 273 (.pointer (some (A 2)))) := S1.cell 2 (by decide) (by decide)
 have g3 : w1.cell? ⟨4, 0, none⟩ = some (.iface 273 (.pointer (some (A 3)))) := S1.cell 3 (by decide) (by decide)
 have g4 : w1.cell? ⟨5, 0, none⟩ = some (.iface 273 (.pointer (some (A 4)))) := S1.cell 4 (by decide) (by decide)
 have g5 : w1.cell? ⟨2, 0, none⟩ = some (.iface 273 (.pointer (some (A 5)))) := S1.cell 5 (by decide) (by decide)
 have g6 : w1.cell? ⟨3, 0, none⟩ = some (.iface 273 (.pointer (some (A 6)))) := S1.cell 6 (by decide) (by decide)
 have g7 : w1.cell? ⟨7, 0, none⟩ = some (.iface 273 (.pointer (some (A 7)))) := S1.cell 7 (by decide) (by decide)
 have g8 : w1.cell? ⟨6, 0, none⟩ = some (.iface 273 (.pointer (some (A 8)))) := S1.cell 8 (by decide) (by decide)
 have g9 : w1.cell? ⟨9, 0, none⟩ = some (.iface 273 (.pointer (some (A 9)))) := S1.cell 9 (by decide) (by decide)
 have g10 : w1.cell? ⟨1, 0, none⟩ = some (.iface 273 (.pointer (some (A 10)))) := S1.cell 10 (by decide) (by decide)
 have HS1 := Lib.hid S1; have HB := Lib.hid b01
 clear S1 b0 b1 b01
 go_wp2_with fail
 clear g1 g2 g3 g4 g5 g6 g7 g8 g9 g10
 have R := RowAt.new w1 33 (tenVs A)
 have b2 : Below w.heap.size w (w1.alloc (.cells (tenVs A).toArray 33)) := HB.out.alloc HB.out.size _
 have HR := Lib.hid R
 have HB2 := Lib.hid b2
 clear R b2 HB HS1
 go_loopw [28, 3] (fun i s3 wr => ∃ k : Nat, k < c ∧ i = .int .i64 k ∧ s3 = .int .i64 (-1) ∧ RowAt w1.heap.size 33 (tenVs A) wr ∧ Below w.heap.size w wr) (fun i _ _ => 10 - (intOf i).toNat)
 case atStart => exact ⟨0, by omega, rfl, rfl, HR.out, HB2.out⟩
 case round =>
   clear HR HB2
   obtain ⟨k, hk, rfl, rfl, R, hb⟩ := hrel
   have hck := (R.cell k).trans (tenVs_get A k (by omega))
   have S2 := HS.out.below hb
   have HB := Lib.hid hb; have HR := Lib.hid R; have HS2 := Lib.hid S2
   clear R hb S2
   obtain ⟨ca, ta, hca⟩ := HS2.out.blk c h1 h10
   obtain ⟨cb, tb, hcb⟩ := HS2.out.blk (k + 1) (by omega) (by omega)
   have HCA := Lib.hid hca; have HCB := Lib.hid hcb
   clear hca hcb
   by_cases hkc : k + 1 = c
   · subst hkc
     go_wp2_with fail
     refine (is_same _ _).mono ?_
     rintro e w' ⟨rfl, rfl⟩
     go_wp2_with fail
     go_ret2
     exact ⟨rfl, HB.out⟩
   · have hne := HS2.out.ne c (k + 1) h1 h10 (by omega) (by omega) (Ne.symm hkc)
     have HNE := Lib.hid hne; clear hne
     go_wp2_with fail
     refine (is_other _ _ _ _ _ _ _ HNE.out HCA.out HCB.out).mono ?_
     rintro e w' ⟨rfl, rfl⟩
     go_wp2_with fail
     go_roundw
     case rel => exact ⟨k + 1, by omega, by go_num, rfl, HR.out, HB.out⟩
     case measure => simp [intOf]; omega
set_option maxHeartbeats 1000000 in
set_option maxRecDepth 8000 in
theorem code_fault (A : Nat → Addr) (c : Nat) (h1 : 1 ≤ c) (h10 : c ≤ 10) (at_ : Int) (g : Nat) (w : World) (hS : Sents A w) (c0 : w.cell? ⟨g, 0, none⟩ = some (.int .i64 at_)) (c1 : w.cell? ⟨g, 1, none⟩ = some (.iface 273 (.pointer (some (A c))))) :
   Calls Tryd.prog 112 #[.iface 134 (.pointer (some ⟨g, 0, none⟩))] w (CodePost c at_ w) := by
 have HS := Lib.hid hS; clear hS
 have HC0 := Lib.hid c0; have HC1 := Lib.hid c1
 have hgl := World.block_lt_of_cell? _ _ c0
 clear c0 c1
 go_enter Tryd.func112, Tryd.ntmps112
 go_wp2_with fail
 have b0 : Below w.heap.size w (w.alloc (.cells #[.pointer none] 134)) := (Below.refl _ _).alloc (Nat.le_refl _) _
 refine (as_hit _ _ (.pointer none) _ (HS.out.below b0).typ (by simp) (by simp)).mono ?_
 rintro e w1 ⟨rfl, k1, ht⟩
 have b01 : Below w.heap.size w w1 := Keep.after b0 k1 (fun i hi => by rw [hi]; exact Nat.le_refl _)
 have S1 := HS.out.below b01
 have g1 : w1.cell? ⟨8, 0, none⟩ = some (.iface 273 (.pointer (some (A 1)))) := S1.cell 1 (by decide) (by decide)
 have g2 : w1.cell? ⟨0, 0, none⟩ = some (.iface 273 (.pointer (some (A 2)))) := S1.cell 2 (by decide) (by decide)
 have g3 : w1.cell? ⟨4, 0, none⟩ = some (.iface 273 (.pointer (some (A 3)))) := S1.cell 3 (by decide) (by decide)
 have g4 : w1.cell? ⟨5, 0, none⟩ = some (.iface 273 (.pointer (some (A 4)))) := S1.cell 4 (by decide) (by decide)
 have g5 : w1.cell? ⟨2, 0, none⟩ = some (.iface 273 (.pointer (some (A 5)))) := S1.cell 5 (by decide) (by decide)
 have g6 : w1.cell? ⟨3, 0, none⟩ = some (.iface 273 (.pointer (some (A 6)))) := S1.cell 6 (by decide) (by decide)
 have g7 : w1.cell? ⟨7, 0, none⟩ = some (.iface 273 (.pointer (some (A 7)))) := S1.cell 7 (by decide) (by decide)
 have g8 : w1.cell? ⟨6, 0, none⟩ = some (.iface 273 (.pointer (some (A 8)))) := S1.cell 8 (by decide) (by decide)
 have g9 : w1.cell? ⟨9, 0, none⟩ = some (.iface 273 (.pointer (some (A 9)))) := S1.cell 9 (by decide) (by decide)
 have g10 : w1.cell? ⟨1, 0, none⟩ = some (.iface 273 (.pointer (some (A 10)))) := S1.cell 10 (by decide) (by decide)
 have q0 := HC0.out
 rw [← b01.cell (p := ⟨g, 0, none⟩) hgl] at q0
 have HB := Lib.hid b01
 clear S1 b0 b01 k1
 go_wp2_with fail
 clear g1 g2 g3 g4 g5 g6 g7 g8 g9 g10 q0 ht
 have R := RowAt.new w1 33 (tenVs A)
 have b2 : Below w.heap.size w (w1.alloc (.cells (tenVs A).toArray 33)) := HB.out.alloc HB.out.size _
 have HR := Lib.hid R
 have HB2 := Lib.hid b2
 clear R b2 HB
 go_loopw [28, 3] (fun i s3 wr => ∃ k : Nat, k < c ∧ i = .int .i64 k ∧ s3 = .int .i64 at_ ∧ RowAt w1.heap.size 33 (tenVs A) wr ∧ Below w.heap.size w wr) (fun i _ _ => 10 - (intOf i).toNat)
 case atStart => exact ⟨0, by omega, rfl, rfl, HR.out, HB2.out⟩
 case round =>
   clear HR HB2
   obtain ⟨k, hk, rfl, rfl, R, hb⟩ := hrel
   have hck := (R.cell k).trans (tenVs_get A k (by omega))
   have S2 := HS.out.below hb
   have q1 := HC1.out
   rw [← hb.cell (p := ⟨g, 1, none⟩) hgl] at q1
   have HQ := Lib.hid q1; clear q1
   have HB := Lib.hid hb; have HR := Lib.hid R; have HS2 := Lib.hid S2
   clear R hb S2
   obtain ⟨ca, ta, hca⟩ := HS2.out.blk c h1 h10
   obtain ⟨cb, tb, hcb⟩ := HS2.out.blk (k + 1) (by omega) (by omega)
   have HCA := Lib.hid hca; have HCB := Lib.hid hcb
   clear hca hcb
   by_cases hkc : k + 1 = c
   · subst hkc
     go_wp2_with fail
     refine (is_fault_same g 0 _ _ HQ.out).mono ?_
     rintro e w' ⟨rfl, rfl⟩
     go_wp2_with fail
     go_ret2
     exact ⟨rfl, HB.out⟩
   · have hne := HS2.out.ne c (k + 1) h1 h10 (by omega) (by omega) (Ne.symm hkc)
     have HNE := Lib.hid hne; clear hne
     go_wp2_with fail
     refine (is_fault_other g 0 _ _ _ _ _ _ _ HQ.out HNE.out HCA.out HCB.out).mono ?_
     rintro e w' ⟨rfl, rfl⟩
     go_wp2_with fail
     go_roundw
     case rel => exact ⟨k + 1, by omega, by go_num, rfl, HR.out, HB.out⟩
     case measure => simp [intOf]; omega
end Go.Proofs.YtajnfkmkombajabDoor
namespace Go.Proofs.YtajnfkmkombajabDoor
open Go.RowKit Go.ChangeShapes
def errorName : List UInt8 := [101, 114, 114, 111, 114]
theorem only_error : ((List.range Tryd.prog.types.size).all fun ty => !Tryd.prog.rowNamed ty errorName || ty == 33) = true := by kernel_rfl
theorem rtype_at : (Tryd.prog.cutTypes.find? (·.1 == "internal/reflectlite.rtype")).map (·.2) = some 228 := by kernel_rfl
theorem globals_size : Tryd.prog.globals.size = 13 := by kernel_rfl
end Go.Proofs.YtajnfkmkombajabDoor
namespace Go.Proofs.YtajnfkmkombajabDoor
open Go Go.Conc
structure Init (n0 : Nat) (A : Nat → Addr) (W : World) : Prop where
 sen : Sents A W
 sob : ∀ c, 1 ≤ c → c ≤ 10 → (A c).block < n0 ∧ 11 ≤ (A c).block ∧ ∃ cs t, W.heap[(A c).block]? = some (.cells cs t (0, 0))
 glo : ∀ g, g < 11 → ∃ cs t, W.heap[g]? = some (.cells cs t (0, 0))
 tok : ∃ cs t, W.heap[13]? = some (.cells cs t (0, 0))
 low : 13 < n0
 size : n0 ≤ W.heap.size
theorem kept_cell {W W1 : World} {b o : Nat} {s : Option Nat} {v : Value} (hb : W1.heap[b]? = W.heap[b]?) (h : W.cell? ⟨b, o, s⟩ = some v) : W1.cell? ⟨b, o, s⟩ = some v := by
 unfold World.cell? at *
 rw [hb]
 exact h
theorem Init.kept {n0 : Nat} {A : Nat → Addr} {W W1 : World} (h : Init n0 A W) (hk : ∀ b, b < n0 → W1.heap[b]? = W.heap[b]?) (hs : n0 ≤ W1.heap.size) : Init n0 A W1 := by
 have hg : ∀ c, gE c < n0 := fun c => by
   have : gE c < 13 := by unfold gE; split <;> decide
   have := h.low
   omega
 have ht : (10 : Nat) < n0 := Nat.lt_trans (by decide) h.low
 refine ⟨⟨⟨fun c hc => kept_cell (hk _ (hg c)) (h.sen.errs.cell c hc)⟩, kept_cell (hk _ ht) h.sen.typ, fun c h1 h2 => ?_, h.sen.ne⟩, fun c h1 h2 => ?_, fun g hg => ?_, ?_, h.low, hs⟩
 · obtain ⟨cs, t, e⟩ := h.sen.blk c h1 h2
   exact ⟨cs, t, by rw [hk _ (h.sob c h1 h2).1]; exact e⟩
 · obtain ⟨e0, e1, cs, t, e⟩ := h.sob c h1 h2
   exact ⟨e0, e1, cs, t, by rw [hk _ e0]; exact e⟩
 · obtain ⟨cs, t, e⟩ := h.glo g hg
   exact ⟨cs, t, by rw [hk _ (by have := h.low; omega)]; exact e⟩
 · obtain ⟨cs, t, e⟩ := h.tok
   exact ⟨cs, t, by rw [hk _ h.low]; exact e⟩
def hiOf (l : List (Nat × Nat)) (b : Nat) : Nat := l.foldr (fun p m => if p.1 = b then max p.2 m else m) 0
theorem hiOf_le {l : List (Nat × Nat)} {b h : Nat} (m : (b, h) ∈ l) : h ≤ hiOf l b := by
 induction l with
 | nil => cases m
 | cons p l ih =>
   show h ≤ (if p.1 = b then max p.2 (hiOf l b) else hiOf l b)
   rcases List.mem_cons.1 m with q | q
   · subst q
     rw [if_pos rfl]
     exact Nat.le_max_left _ _
   · have := ih q
     split <;> omega
theorem hiOf_lt {l : List (Nat × Nat)} {b i : Nat} (m : i < hiOf l b) : ∃ h, (b, h) ∈ l ∧ i < h := by
 induction l with
 | nil => exact absurd m (Nat.not_lt_zero _)
 | cons p l ih =>
   change i < (if p.1 = b then max p.2 (hiOf l b) else hiOf l b) at m
   split at m
   · next e =>
     rcases Nat.lt_or_ge i p.2 with q | q
     · exact ⟨p.2, by rw [← e]; exact List.mem_cons_self, q⟩
     · obtain ⟨h, h1, h2⟩ := ih (by omega)
       exact ⟨h, List.mem_cons_of_mem _ h1, h2⟩
   · obtain ⟨h, h1, h2⟩ := ih m
     exact ⟨h, List.mem_cons_of_mem _ h1, h2⟩
def xKind (l : List (Nat × Nat)) (b : Nat) : FKind := if l.any (fun p => p.1 == b) then .rng 0 (hiOf l b) else .no
def sentB (A : Nat → Addr) (b : Nat) : Bool := [1, 2, 3, 4, 5, 6, 7, 8, 9, 10].any fun c => (A c).block == b
def footL (A : Nat → Addr) (l : List (Nat × Nat)) : Foot := ⟨fun b => if b < 11 then .rng 0 1 else if b = 13 then .bare else if sentB A b then .bare else xKind l b⟩
section
variable {n0 : Nat} {A : Nat → Addr} {W : World} {l : List (Nat × Nat)} {b h : Nat}
theorem sentB_iff : sentB A b = true ↔ ∃ c, 1 ≤ c ∧ c ≤ 10 ∧ (A c).block = b := by
 unfold sentB
 rw [List.any_eq_true]
 constructor
 · rintro ⟨c, hc, e⟩
   refine ⟨c, ?_, ?_, by simpa using e⟩ <;> (simp at hc; omega)
 · rintro ⟨c, h1, h2, e⟩
   exact ⟨c, by simp; omega, by simpa using e⟩
theorem kind_new (hI : Init n0 A W) (m : (b, h) ∈ l) (hn : n0 ≤ b) : (footL A l).kind b = .rng 0 (hiOf l b) := by
 have := hI.low
 unfold footL
 simp only
 rw [if_neg (show ¬ b < 11 by omega), if_neg (show ¬ b = 13 by omega), if_neg]
 · unfold xKind
   rw [if_pos]
   rw [List.any_eq_true]
   exact ⟨_, m, by simp⟩
 · intro q
   obtain ⟨c, h1, h2, e⟩ := sentB_iff.1 q
   have := (hI.sob c h1 h2).1
   omega
theorem has_new (hI : Init n0 A W) (m : (b, h) ∈ l) (hn : n0 ≤ b) : (footL A l).has b := by
 unfold Foot.has
 rw [kind_new hI m hn]
 rfl
theorem kind_glob (hg : b < 11) : (footL A l).kind b = .rng 0 1 := if_pos hg
theorem has_glob (hg : b < 11) : (footL A l).has b := by unfold Foot.has; rw [kind_glob hg]; rfl
theorem kind_GN : (footL A l).kind 13 = .bare := by
 unfold footL
 simp only
 rw [if_neg (by decide), if_pos trivial]
theorem has_GN : (footL A l).has 13 := by unfold Foot.has; rw [kind_GN]; rfl
theorem kind_sent (hI : Init n0 A W) {c : Nat} (h1 : 1 ≤ c) (h2 : c ≤ 10) : (footL A l).kind (A c).block = .bare := by
 have hlo := (hI.sob c h1 h2).2.1
 unfold footL
 simp only
 rw [if_neg (by omega)]
 split
 · rfl
 · rw [if_pos (sentB_iff.2 ⟨c, h1, h2, rfl⟩)]
theorem has_sent (hI : Init n0 A W) {c : Nat} (h1 : 1 ≤ c) (h2 : c ≤ 10) : (footL A l).has (A c).block := by unfold Foot.has; rw [kind_sent hI h1 h2]; rfl
theorem val_ev {ok : Fn → Prop} (hI : Init n0 A W) {c : Nat} (h2 : c ≤ 10) : (footL A l).val ok (ev A c) := by
 by_cases h0 : c = 0
 · rw [h0, ev_nil]; exact .nilIface
 · rw [ev_some A h0]; exact val_iface _ (val_ptr (has_sent hI (by omega) h2))
theorem glob_all : ∀ g, g < 11 → (∃ c, c < 11 ∧ 1 ≤ c ∧ gE c = g) ∨ g = 10 := by decide
theorem cell_first {b : Nat} {c : Array Value} {t : TypeId} {f : Nat × Nat} {i : Nat} {v u : Value} (hb : W.heap[b]? = some (.cells c t f)) (hv : W.cell? ⟨b, i, none⟩ = some v) (hu : c[i]? = some u) : u = v := by
 unfold World.cell? at hv
 simp only [hb] at hv
 simp at hv
 rw [hu] at hv
 exact Option.some.inj hv
theorem foot_ok {ok : Fn → Prop} (hI : Init n0 A W) (hl : ∀ b h, (b, h) ∈ l → n0 ≤ b ∧ ∃ c t, W.heap[b]? = some (.cells c t (0, 0)) ∧ ∀ (i : Nat) (v : Value), i < h → c[i]? = some v → (footL A l).val ok v) : FootOk Tryd.prog ok (footL A l) true W := by
 refine ⟨fun b hb => ?_, by rw [globals_sz]; have := hI.low; have := hI.size; omega⟩
 rcases Nat.lt_or_ge b 11 with q | q
 · obtain ⟨cs, t, e⟩ := hI.glo b q
   refine ⟨cs, t, (0, 0), e, fun _ => rfl, fun p hk i v h1 hv => ?_⟩
   rw [kind_glob q] at hk
   cases hk
   obtain rfl : i = 0 := by simp at h1; omega
   rcases glob_all b q with ⟨c, c1, c2, rfl⟩ | rfl
   · have := cell_first e (hI.sen.errs.cell c (by simp; omega)) hv
     subst this
     exact val_ev hI (by omega)
   · have := cell_first e hI.sen.typ hv
     subst this
     exact val_iface _ (.agg' (.one (val_ptr has_GN)))
 · by_cases hgn : b = 13
   · subst hgn
     obtain ⟨cs, t, e⟩ := hI.tok
     exact ⟨cs, t, (0, 0), e, fun _ => rfl, fun p hk => by rw [kind_GN] at hk; cases hk⟩
   · by_cases hs : sentB A b = true
     · obtain ⟨c, h1, h2, rfl⟩ := sentB_iff.1 hs
       obtain ⟨-, -, cs, t, e⟩ := hI.sob c h1 h2
       exact ⟨cs, _, (0, 0), e, fun _ => rfl, fun p hk => by rw [kind_sent hI h1 h2] at hk; cases hk⟩
     · have hk : (footL A l).kind b = xKind l b := by
         unfold footL
         simp only
         rw [if_neg (by omega), if_neg hgn, if_neg hs]
       unfold Foot.has at hb
       rw [hk] at hb
       unfold xKind at hb hk
       split at hb
       · next hany =>
         rw [if_pos hany] at hk
         rw [List.any_eq_true] at hany
         obtain ⟨⟨b', h'⟩, hm, e⟩ := hany
         obtain rfl : b' = b := by simpa using e
         obtain ⟨-, c, t, e1, -⟩ := hl _ _ hm
         refine ⟨c, t, (0, 0), e1, fun _ => rfl, fun p hk' i v h1 hv => ?_⟩
         rw [hk] at hk'
         cases hk'
         obtain ⟨h2', hm2, hlt⟩ := hiOf_lt (l := l) (b := b') (i := i) (by simpa using h1)
         obtain ⟨-, c2, t2, e2, e3⟩ := hl _ _ hm2
         rw [e1] at e2
         cases e2
         exact e3 i v hlt hv
       · cases hb
theorem foot_sents {ok : Fn → Prop} (hI : Init n0 A W) : Sents A (loneW ok (footL A l) W) := by
 refine ⟨⟨fun c hc => ?_⟩, ?_, fun c h1 h2 => ?_, hI.sen.ne⟩
 · have : gE c < 11 := by unfold gE; split <;> decide
   exact foot_cell (kind_glob this) (Nat.zero_le _) (by decide) (hI.sen.errs.cell c hc)
 · exact foot_cell (kind_glob (by decide)) (Nat.zero_le _) (by decide) hI.sen.typ
 · obtain ⟨-, -, cs, t, e⟩ := hI.sob c h1 h2
   exact ⟨_, _, foot_bare (kind_sent hI h1 h2) e⟩
theorem foot_new {ok : Fn → Prop} (hI : Init n0 A W) (m : (b, h) ∈ l) (hn : n0 ≤ b) {i : Nat} {v : Value} (hi : i < h) (hv : W.cell? ⟨b, i, none⟩ = some v) : (loneW ok (footL A l) W).cell? ⟨b, i, none⟩ = some v :=
 foot_cell (kind_new hI m hn) (Nat.zero_le _) (Nat.lt_of_lt_of_le hi (hiOf_le m)) hv
theorem gl_has : ∀ g, GlS.gl g = true → (footL A l).has g := fun g hg => by
 have : g < 11 ∨ g = 13 := by
   have h : (decide (g < 11) || g == 13) = true := hg
   rcases (Bool.or_eq_true _ _).mp h with q | q
   · exact .inl (by simpa using q)
   · exact .inr (by simpa using q)
 rcases this with q | rfl
 · exact has_glob q
 · exact has_GN
end
end Go.Proofs.YtajnfkmkombajabDoor
namespace Go.Proofs.YtajnfkmkombajabDoor
open Go.RowKit
def OwnSl (base : Nat) (e : TypeId) (v : Value) (xs : List Value) (w : World) : Prop :=
 (v = .slice none 0 0 ∧ xs = []) ∨
 ∃ g off cap cur, v = .slice (some ⟨g, off, none⟩) xs.length cap ∧ base ≤ g ∧ w.heap[g]? = some (.cells cur e (0, 0)) ∧ xs.length ≤ cap ∧ cap ≤ maxLen ∧ off + cap ≤ cur.size ∧ (cur.toList.drop off).take xs.length = xs
section
variable {base : Nat} {e : TypeId} {v : Value} {xs : List Value} {w w' : World}
theorem OwnSl.nil (base : Nat) (e : TypeId) (w : World) : OwnSl base e (.slice none 0 0) [] w := .inl ⟨rfl, rfl⟩
theorem OwnSl.shape (h : OwnSl base e v xs w) : ∃ ao cap, v = .slice ao xs.length cap ∧ xs.length ≤ cap ∧ cap ≤ maxLen := by
 rcases h with ⟨rfl, rfl⟩ | ⟨g, off, cap, cur, rfl, _, _, h1, h2, _⟩
 · exact ⟨none, 0, rfl, Nat.le_refl _, by simp⟩
 · exact ⟨_, cap, rfl, h1, h2⟩
theorem OwnSl.blk (h : OwnSl base e v xs w) {k : Nat} (hk : v.ownBlock = some k) : base ≤ k ∧ k < w.heap.size := by
 rcases h with ⟨rfl, _⟩ | ⟨g, off, cap, cur, rfl, hb, hg, _⟩
 · cases hk
 · cases hk; exact ⟨hb, lt_of_block hg⟩
theorem OwnSl.kept (h : OwnSl base e v xs w) (hk : ∀ g, v.ownBlock = some g → w'.heap[g]? = w.heap[g]?) : OwnSl base e v xs w' := by
 rcases h with h | ⟨g, off, cap, cur, rfl, hb, hg, r⟩
 · exact .inl h
 · exact .inr ⟨g, off, cap, cur, rfl, hb, by rw [hk g rfl]; exact hg, r⟩
theorem OwnSl.keep {F : Nat → Prop} (h : OwnSl base e v xs w) (k : Keep F w w') (hF : ∀ g, v.ownBlock = some g → ¬ F g) : OwnSl base e v xs w' :=
 h.kept fun g hg => k.block g (h.blk hg).2 (hF g hg)
theorem OwnSl.alloc (h : OwnSl base e v xs w) (o : Obj) : OwnSl base e v xs (w.alloc o) := h.kept fun g hg => Below.heap_alloc _ _ _ (h.blk hg).2
theorem OwnSl.setCell_other (h : OwnSl base e v xs w) {a : Addr} (ha : v.ownBlock ≠ some a.block) (u : Value) : OwnSl base e v xs (w.setCell a u) :=
 h.kept fun g hg => Below.heap_setCell _ _ _ _ (by rintro rfl; exact ha hg)
theorem OwnSl.grown {row : Option Nat} (h : OwnSl base e v xs w) (hg : w.grownBy w' row) (hne : ∀ g, v.ownBlock = some g → some g ≠ row) : OwnSl base e v xs w' :=
 h.kept fun g hv => hg.block g (h.blk hv).2 (hne g hv)
theorem OwnSl.mono {base' : Nat} (h : OwnSl base e v xs w) (hb : base' ≤ base) : OwnSl base' e v xs w := by
 rcases h with h | ⟨g, off, cap, cur, rfl, h1, r⟩
 · exact .inl h
 · exact .inr ⟨g, off, cap, cur, rfl, by omega, r⟩
theorem OwnSl.of_own {n : Nat} (h : w.ownsRow base e 1 v n xs) : OwnSl base e v xs w := by
 have hl : xs.length = n := by have := h.1; omega
 subst hl
 rcases h.2 with ⟨hv, hn⟩ | ⟨g, cap, cur, hv, hb, hg, hnc, hcm, hcs, ht⟩
 · exact .inl ⟨hv, List.eq_nil_of_length_eq_zero hn⟩
 · exact .inr ⟨g, 0, cap, cur, hv, hb, hg, hnc, hcm, by omega, by simpa using ht⟩
theorem sl_cell {cur : Array Value} {off i n : Nat} {xs : List Value} (h : (cur.toList.drop off).take n = xs) (hi : i < n) : cur[off + i]? = xs[i]? := by
 rw [← h, List.getElem?_take, if_pos hi, List.getElem?_drop]; simp
theorem OwnSl.cells (h : OwnSl base e v xs w) (h0 : 0 < xs.length) : ∃ g off cap, v = .slice (some ⟨g, off, none⟩) xs.length cap ∧ base ≤ g ∧ g < w.heap.size ∧ xs.length ≤ cap ∧ cap ≤ maxLen ∧ ∀ i, i < xs.length → w.cell? ⟨g, off + i, none⟩ = xs[i]? := by
 rcases h with ⟨_, rfl⟩ | ⟨g, off, cap, cur, rfl, hb, hg, h1, h2, h3, h4⟩
 · simp at h0
 · refine ⟨g, off, cap, rfl, hb, lt_of_block hg, h1, h2, fun i hi => ?_⟩
   rw [← sl_cell h4 hi]; simp [World.cell?, hg]
theorem tail_step {cur : Array Value} {off cap : Nat} {x : Value} {xs : List Value} (h1 : xs.length + 1 ≤ cap) (h4 : (cur.toList.drop off).take (xs.length + 1) = x :: xs) : (cur.toList.drop (if cap = 1 then off else off + 1)).take xs.length = xs := by
 have hx : (cur.toList.drop (off + 1)).take xs.length = xs := by
   have := congrArg List.tail h4
   rw [List.tail_cons] at this
   rw [← this]
   cases hd : cur.toList.drop off with
   | nil => rw [hd] at h4; simp at h4
   | cons y ys => rw [← List.tail_drop, hd]; simp
 split
 · have : xs = [] := List.eq_nil_of_length_eq_zero (by omega)
   subst this; simp
 · exact hx
theorem OwnSl.tail {P : Program} {t : TypeId} {x : Value} (ht : P.underlying t = some (.slice (P.elem t))) (hsz : ∀ wx : World, (sizeOf (P.elem t)).run P wx = .ok 1 wx) (k : IntKind) (h : OwnSl base e v (x :: xs) w) :
   ∃ v', (∀ wx : World, (Instr.slice t v (some (.int k 1)) none none).run P wx = .ok v' wx) ∧ (∀ w2 : World, OwnSl base e v (x :: xs) w2 → OwnSl base e v' xs w2) ∧ (∃ ao cap, v' = .slice ao xs.length cap) ∧ v'.ownBlock = v.ownBlock := by
 rcases h with ⟨_, h⟩ | ⟨g, off, cap, cur, rfl, hb, hg, h1, h2, h3, h4⟩
 · cases h
 · simp only [List.length_cons] at h1 h3 h4 ⊢
   refine ⟨.slice (some (if cap = 1 then ⟨g, off, none⟩ else ⟨g, off + 1, none⟩)) xs.length (cap - 1), fun wx => ?_, fun w2 h' => ?_, ⟨_, _, rfl⟩, ?_⟩
   · rw [run_slice_l wx t _ _ _ ht k 1 (by omega) (by omega), hsz]
     simp only [Result.andThen, sliced, Int.toNat_one, Nat.one_mul, Nat.add_sub_cancel]
     by_cases hc : cap = 1
     · simp [hc]
     · simp [hc, Addr.add]
   · clear hg h2 h3 h4
     rcases h' with ⟨_, h⟩ | ⟨g', off', cap', cur', hv, hb', hg, h1', h2, h3, h4⟩
     · cases h
     · cases hv
       simp only [List.length_cons] at h4
       refine .inr ⟨g, if cap = 1 then off else off + 1, cap - 1, cur', ?_, hb, hg, by omega, by omega, by split <;> omega, tail_step h1 h4⟩
       split <;> simp
   · split <;> rfl
theorem run_append_sl {P : Program} (w : World) (t ty : TypeId) (base : Nat) (e : TypeId) (i : TypeInfo) (z : Value) (bytes : Nat) (ht : P.underlying t = some (.slice e)) (hi : P.info? e = some i) (hz : i.zero = some z)
   (hsize : i.size = 1) (hby : i.bytes = bytes) (hzs : z.cells.size = 1)
   (v : Value) (xs : List Value) (hown : OwnSl base e v xs w) (ad : Addr) (x : Value) (hc : ∀ j u, [x][j]? = some u → w.cell? (ad.add j) = some u) (h1 : ∀ u ∈ [x], u.oneCell' = true)
   (h63 : xs.length + 1 ≤ maxLen) (hbytes : (xs.length + 1) * bytes ≤ 140737488355328) (hbase : base ≤ w.heap.size) :
   ∃ v' w', (Builtin.append_ #[t, t] ty #[v, .slice (some ad) 1 1]).run P w = .ok v' w' ∧ OwnSl base e v' (xs ++ [x]) w' ∧ w.grownBy w' v.ownBlock ∧ (v'.ownBlock = v.ownBlock ∨ v'.ownBlock = some w.heap.size) := by
 rcases hown with ⟨rfl, rfl⟩ | ⟨g, off, cap, cur, rfl, hb, hg, hl1, hl2, hl3, hl4⟩
 · obtain ⟨v', w', hr, h2, h3, _, h5⟩ := run_append_own_at (P := P) w base t ty e i z 1 bytes ht hi hz hsize hby hzs (by decide) (.slice none 0 0) 0 [] (World.ownsRow_nil _ _ _ _) ad 1 1 [x] rfl hc h1 h63 hbytes hbase
   exact ⟨v', w', hr, OwnSl.of_own h2, h3, h5⟩
 · by_cases hroom : xs.length + 1 ≤ cap
   · have hlt := lt_of_block hg
     have hr := run_append_room_cells (P := P) w t ty e i ht hi g off xs.length cap ad 1 1 [x] (by simp [hsize]) hc h1 hroom
       (fun j hj => by simp at hj; subst hj; simp [World.cell?, hg, hsize]; omega) (fun j hj => by simp [World.frozen?, hg])
     refine ⟨_, _, hr, ?_, ?_, .inl rfl⟩
     · simp only [World.setCells, hsize, Nat.mul_one]
       have hgs : (w.setCell ⟨g, off + xs.length, none⟩ x).heap[g]? = some (.cells (cur.setIfInBounds (off + xs.length) x) e (0, 0)) := by
         have h' : w.heap[g] = .cells cur e (0, 0) := by simpa [Array.getElem?_eq_getElem hlt] using hg
         show (w.heap.modify g _)[g]? = _
         rw [Array.getElem?_eq_getElem (by simpa using hlt), Array.getElem_modify_self, h']
         simp
       refine .inr ⟨g, off, cap, _, by simp, hb, hgs, by simp; omega, hl2, by simpa using hl3, ?_⟩
       apply List.ext_getElem?
       intro k
       rw [List.getElem?_take]
       split
       · next hk =>
         rw [List.getElem?_drop, Array.getElem?_toList, Array.getElem?_setIfInBounds]
         simp only [List.length_append, List.length_cons, List.length_nil, Nat.zero_add] at hk
         by_cases hkk : k = xs.length
         · subst hkk
           rw [if_pos rfl, if_pos (by omega)]; simp
         · rw [if_neg (by omega), sl_cell hl4 (by omega), List.getElem?_append_left (by omega)]
       · next hk =>
         rw [List.getElem?_eq_none (by omega)]
     · simp only [World.setCells, hsize, Nat.mul_one]
       exact ⟨rfl, rfl, rfl, by simp [World.setCell], fun k hk hne => Below.heap_setCell _ _ _ _ (fun e => hne (by simp [Value.ownBlock, e]))⟩
   · obtain ⟨v', w', hr, h2, h3⟩ := run_append_arg_grows (P := P) w t ty e i z 1 bytes ht hi hz hsize hby hzs (by decide) ⟨g, off, none⟩ xs.length cap xs (by simp)
       (fun j u hj => by
         rw [Addr.add_lit]
         have hj' : j < xs.length := (List.getElem?_eq_some_iff.1 hj).1
         rw [← hj, ← sl_cell hl4 hj']; simp [World.cell?, hg]) ad 1 1 [x] rfl hc (by omega) h63 hbytes
     have hb2 := (OwnSl.of_own h2)
     have hg2 : w.grownBy w' (Value.ownBlock (.slice (some ⟨g, off, none⟩) xs.length cap)) := ⟨h3.os, h3.tape, h3.output, h3.size, fun k hk _ => h3.block k hk (by simp)⟩
     have hr' := run_append_grow (P := P) w t ty e i z ht hi hz ⟨g, off, none⟩ xs.length cap xs (by simp [hsize]) (fun j u hj => by
         rw [Addr.add_lit]
         have hj' : j < xs.length := (List.getElem?_eq_some_iff.1 hj).1
         rw [← hj, ← sl_cell hl4 hj']; simp [World.cell?, hg]) ad 1 1 [x] (by simp [hsize]) hc (by omega) (by simp only [maxLen] at h63; omega) (growslice_fits (by omega) (by rw [hby]; exact hbytes))
     rw [hr'] at hr
     have hv : v' = .slice (some ⟨w.heap.size, 0, none⟩) (xs.length + 1) (grownCap w (xs.length + 1) cap e) := by cases hr; rfl
     exact ⟨v', w', by rw [hr']; exact hr, hb2.mono hbase, hg2, .inr (by rw [hv]; rfl)⟩
theorem wpList_append_sl {P : Program} (w : World) {ops : Array Oper} {rest : List Oper} {o : Oper} {a : Act} {Q : Exit → Act → World → Prop} (hgd : o.guard = none) (s x : Operand) (t : TypeId)
   (ho : o.op = .call { callee := .builtin .append, args := #[s, x], argTypes := #[t, t] })
   (base : Nat) (e : TypeId) (i : TypeInfo) (z : Value) (bytes : Nat) (ht : P.underlying t = some (.slice e)) (hi : P.info? e = some i) (hz : i.zero = some z)
   (hsize : i.size = 1) (hby : i.bytes = bytes) (hzs : z.cells.size = 1)
   (v : Value) (xs : List Value) (hs : a.eval s = v) (hown : OwnSl base e v xs w)
   (ad : Addr) (u : Value) (hx : a.eval x = .slice (some ad) 1 1) (hc : ∀ j y, [u][j]? = some y → w.cell? (ad.add j) = some y) (h1 : ∀ y ∈ [u], y.oneCell' = true)
   (h63 : xs.length + 1 ≤ maxLen) (hbytes : (xs.length + 1) * bytes ≤ 140737488355328) (hbase : base ≤ w.heap.size)
   (h : ∀ v' w', OwnSl base e v' (xs ++ [u]) w' → w.grownBy w' v.ownBlock → (v'.ownBlock = v.ownBlock ∨ v'.ownBlock = some w.heap.size) → wpList P ops Q rest (a.put o.dst v') w') : wpList P ops Q (o :: rest) a w := by
 refine wpList_plain hgd fun K hK => ?_
 obtain ⟨v', w', hr, h2, h3, h4⟩ := run_append_sl (P := P) w t o.type base e i z bytes ht hi hz hsize hby hzs v xs hown ad u hc h1 h63 hbytes hbase
 unfold Oper.wp execOp
 simp only [ho, resolve, invoke, builtin, Sem.run_bind, Sem.run_pure, Result.andThen_ok, List.map_toArray, List.map_cons, List.map_nil, hs, hx, hr]
 exact hK _ _ (h v' w' h2 h3 h4)
theorem step_append_sl {P : Program} {ops : Array Oper} {o : Oper} {a : Act} {w : World} {K : Act → World → Prop} {Q : Exit → Act → World → Prop} {E : Prop} (hgd : o.guard = none) (s x : Operand) (t : TypeId)
   (ho : o.op = .call { callee := .builtin .append, args := #[s, x], argTypes := #[t, t] })
   (base : Nat) (e : TypeId) (i : TypeInfo) (z : Value) (bytes : Nat) (ht : P.underlying t = some (.slice e)) (hi : P.info? e = some i) (hz : i.zero = some z)
   (hsize : i.size = 1) (hby : i.bytes = bytes) (hzs : z.cells.size = 1)
   (v : Value) (xs : List Value) (hs : a.eval s = v) (hown : OwnSl base e v xs w)
   (ad : Addr) (u : Value) (hx : a.eval x = .slice (some ad) 1 1) (hc : ∀ j y, [u][j]? = some y → w.cell? (ad.add j) = some y) (h1 : ∀ y ∈ [u], y.oneCell' = true)
   (h63 : xs.length + 1 ≤ maxLen) (hbytes : (xs.length + 1) * bytes ≤ 140737488355328) (hbase : base ≤ w.heap.size)
   (h : ∀ v' w', OwnSl base e v' (xs ++ [u]) w' → w.grownBy w' v.ownBlock → (v'.ownBlock = v.ownBlock ∨ v'.ownBlock = some w.heap.size) → K (a.put o.dst v') w') :
   if Region.wanted o (yielded ops a.tmps) = true then Oper.wp P o a w K Q else E := by
 have hw : Region.wanted o (yielded ops a.tmps) = true := by simp [Region.wanted, hgd]
 rw [if_pos hw]
 obtain ⟨v', w', hr, h2, h3, h4⟩ := run_append_sl (P := P) w t o.type base e i z bytes ht hi hz hsize hby hzs v xs hown ad u hc h1 h63 hbytes hbase
 unfold Oper.wp execOp
 simp only [ho, resolve, invoke, builtin, Sem.run_bind, Sem.run_pure, Result.andThen_ok, List.map_toArray, List.map_cons, List.map_nil, hs, hx, hr]
 exact h v' w' h2 h3 h4
end
end Go.Proofs.YtajnfkmkombajabDoor
namespace Go.Proofs.YtajnfkmkombajabDoor
open Go.RowKit
theorem RdI.of_sl {k : IntKind} {base : Nat} {e : TypeId} {w : World} {ao : Option Addr} {n cap : Nat} {zs : List Int} (h : OwnSl base e (.slice ao n cap) (zs.map (Value.int k)) w) : RdI k w ao zs.length cap zs := by
 rcases h with ⟨hv, hn⟩ | ⟨g, off, cap', cur, hv, hb, hg, h1, h2, h3, h4⟩
 · cases hv
   have : zs = [] := by simpa using hn
   subst this
   exact RdI.nil k w
 · cases hv
   simp only [List.length_map] at h1 h4
   refine ⟨rfl, h1, h2, fun h => (by cases h), fun i hi => ⟨g, off, rfl, ?_⟩⟩
   have := sl_cell h4 hi
   simp only [World.cell?, hg]
   simpa [List.getD_eq_getElem?_getD, hi] using this
theorem run_append_rd {P : Program} (w : World) (t ty : TypeId) (base : Nat) (e : TypeId) (i : TypeInfo) (z : Value) (bytes : Nat) (ht : P.underlying t = some (.slice e)) (hi : P.info? e = some i) (hz : i.zero = some z)
   (hsize : i.size = 1) (hby : i.bytes = bytes) (hzs : z.cells.size = 1) (v : Value) (n : Nat) (xs : List Value) (hown : w.ownsRow base e 1 v n xs)
   (k : IntKind) (ao : Option Addr) (len cap : Nat) (zs : List Int) (R : RdI k w ao len cap zs) (h63 : n + len ≤ maxLen) (hbytes : (n + len) * bytes ≤ 140737488355328) (hbase : base ≤ w.heap.size) :
   ∃ v' w', (Builtin.append_ #[t, t] ty #[v, .slice ao len cap]).run P w = .ok v' w' ∧ w'.ownsRow base e 1 v' (n + len) (xs ++ zs.map (Value.int k)) ∧ w.grownBy w' v.ownBlock := by
 have hone : ∀ u ∈ zs.map (Value.int k), u.oneCell' = true := by intro u hu; obtain ⟨x, _, rfl⟩ := List.mem_map.1 hu; rfl
 cases ao with
 | none =>
   obtain rfl : cap = 0 := R.nul rfl
   obtain rfl : len = 0 := by have := R.lc; omega
   obtain rfl : zs = [] := List.eq_nil_of_length_eq_zero R.size
   have hrun := run_append_owned_none (P := P) (w := w) base t ty e i 1 ht hi v n xs hown
   exact ⟨v, w, hrun, by simpa using hown, ⟨rfl, rfl, rfl, Nat.le_refl _, fun _ _ _ => rfl⟩⟩
 | some a =>
   have hcs : ∀ j u, (zs.map (Value.int k))[j]? = some u → w.cell? (a.add j) = some u := by
     intro j u hj
     rw [List.getElem?_map] at hj
     obtain ⟨x, hx, rfl⟩ := Option.map_eq_some_iff.1 hj
     have hjl : j < zs.length := (List.getElem?_eq_some_iff.1 hx).1
     obtain ⟨b, off, ha, hc⟩ := R.cells j (by rw [← R.size]; exact hjl)
     cases ha
     rw [List.getD_eq_getElem?_getD, hx] at hc
     rw [Addr.add_lit, hc]; rfl
   obtain ⟨v', w', hr, h2, h3, _⟩ := run_append_own (P := P) w base t ty e i z 1 bytes ht hi hz hsize hby hzs (by decide) v n xs hown a len cap (zs.map (Value.int k)) (by rw [List.length_map, R.size, Nat.mul_one]) hcs hone h63 hbytes hbase
   exact ⟨v', w', hr, h2, h3⟩
theorem wpList_append_rd {P : Program} (w : World) {ops : Array Oper} {rest : List Oper} {o : Oper} {a : Act} {Q : Exit → Act → World → Prop} (hgd : o.guard = none) (s x : Operand) (t : TypeId)
   (ho : o.op = .call { callee := .builtin .append, args := #[s, x], argTypes := #[t, t] })
   (base : Nat) (e : TypeId) (i : TypeInfo) (z : Value) (bytes : Nat) (ht : P.underlying t = some (.slice e)) (hi : P.info? e = some i) (hz : i.zero = some z)
   (hsize : i.size = 1) (hby : i.bytes = bytes) (hzs : z.cells.size = 1) (v : Value) (n : Nat) (xs : List Value) (hs : a.eval s = v) (hown : w.ownsRow base e 1 v n xs)
   (k : IntKind) (ao : Option Addr) (len cap : Nat) (zs : List Int) (hx : a.eval x = .slice ao len cap) (R : RdI k w ao len cap zs) (h63 : n + len ≤ maxLen) (hbytes : (n + len) * bytes ≤ 140737488355328) (hbase : base ≤ w.heap.size)
   (h : ∀ v' w', w'.ownsRow base e 1 v' (n + len) (xs ++ zs.map (Value.int k)) → w.grownBy w' v.ownBlock → wpList P ops Q rest (a.put o.dst v') w') : wpList P ops Q (o :: rest) a w := by
 refine wpList_plain hgd fun K hK => ?_
 obtain ⟨v', w', hr, h2, h3⟩ := run_append_rd (P := P) w t o.type base e i z bytes ht hi hz hsize hby hzs v n xs hown k ao len cap zs R h63 hbytes hbase
 unfold Oper.wp execOp
 simp only [ho, resolve, invoke, builtin, Sem.run_bind, Sem.run_pure, Result.andThen_ok, List.map_toArray, List.map_cons, List.map_nil, hs, hx, hr]
 exact hK _ _ (h v' w' h2 h3)
end Go.Proofs.YtajnfkmkombajabDoor
