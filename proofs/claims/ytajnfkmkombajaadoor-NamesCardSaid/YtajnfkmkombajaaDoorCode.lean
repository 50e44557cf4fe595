/- Contracts of plain.Code: an error's number and place. -/
import Derived.Test.YtajnfkmkombajaaDoorAs
import Derived.Test.YtajnfkmkombajaaDoorErrIs
import Derived.Deep.RegionWith
set_option linter.unusedVariables false
set_option linter.unusedSimpArgs false
namespace Go.Proofs.YtajnfkmkombajaaDoor
open Go.RowKit

/-- all ten sentinels: their variables hold them, they are different ones, each in a block that may be written; and errors.errorType -/
structure Sents (A : Nat → Addr) (w : World) : Prop where
  errs : Errs A [1, 2, 3, 4, 5, 6, 7, 8, 9, 10] w
  typ : ErrType w
  blk : ∀ c, 1 ≤ c → c ≤ 10 → ∃ cs t, w.heap[(A c).block]? = some (.cells cs t (0, 0))
  ne : ∀ c d, 1 ≤ c → c ≤ 10 → 1 ≤ d → d ≤ 10 → c ≠ d → A c ≠ A d
theorem Sents.below {A : Nat → Addr} {w w' : World} (h : Sents A w) (hb : Below w.heap.size w w') : Sents A w' :=
  ⟨h.errs.below hb, h.typ.below hb, fun c h1 h2 => by obtain ⟨cs, t, hc⟩ := h.blk c h1 h2; exact ⟨cs, t, below_heap hb hc (lt_of_block hc)⟩, h.ne⟩
theorem Sents.cell {A : Nat → Addr} {w : World} (h : Sents A w) (c : Nat) (h1 : 1 ≤ c) (h2 : c ≤ 10) : w.cell? ⟨gE c, 0, none⟩ = some (.iface 111 (.pointer (some (A c)))) := by
  have := h.errs.cell c (by simp; omega)
  rw [ev_some _ (by omega)] at this; exact this

def evP (A : Nat → Addr) (c : Nat) : Value := .iface 111 (.pointer (some (A c)))
def tenVs (A : Nat → Addr) : List Value := [evP A 1, evP A 2, evP A 3, evP A 4, evP A 5, evP A 6, evP A 7, evP A 8, evP A 9, evP A 10]
theorem tenVs_get (A : Nat → Addr) (k : Nat) (hk : k < 10) : (tenVs A)[k]? = some (.iface 111 (.pointer (some (A (k + 1))))) := by
  match k, hk with
  | 0, _ => rfl
  | 1, _ => rfl
  | 2, _ => rfl
  | 3, _ => rfl
  | 4, _ => rfl
  | 5, _ => rfl
  | 6, _ => rfl
  | 7, _ => rfl
  | 8, _ => rfl
  | 9, _ => rfl

/-- what Code answers -/
def CodePost (c : Nat) (at_ : Int) (w : World) (e : Ending) (w' : World) : Prop := e = .returned (.tuple #[.int .i64 c, .int .i64 at_]) ∧ Below w.heap.size w w'

theorem code_nil (w : World) : Calls Tryd.prog 53 #[.nilIface] w (CodePost 0 (-1) w) := by
  go_enter Tryd.func53, Tryd.ntmps53
  go_wp2
  go_ret2
  exact ⟨rfl, Below.refl _ _⟩

set_option maxHeartbeats 1000000 in
set_option maxRecDepth 8000 in
theorem code_bare (A : Nat → Addr) (c : Nat) (h1 : 1 ≤ c) (h10 : c ≤ 10) (w : World) (hS : Sents A w) :
    Calls Tryd.prog 53 #[.iface 111 (.pointer (some (A c)))] w (CodePost c (-1) w) := by
  have HS := Lib.hid hS; clear hS
  go_enter Tryd.func53, Tryd.ntmps53
  go_wp2_with fail
  have b0 : Below w.heap.size w (w.alloc (.cells #[.pointer none] 70)) := (Below.refl _ _).alloc (Nat.le_refl _) _
  refine (as_miss _ _ _ (HS.out.below b0).typ).mono ?_
  rintro e w1 ⟨rfl, b1⟩
  have b01 := btrans b0 b1
  have S1 := HS.out.below b01
  have g1 : w1.cell? ⟨0, 0, none⟩ = some (.iface 111 (.pointer (some (A 1)))) := S1.cell 1 (by decide) (by decide)
  have g2 : w1.cell? ⟨1, 0, none⟩ = some (.iface 111 (.pointer (some (A 2)))) := S1.cell 2 (by decide) (by decide)
  have g3 : w1.cell? ⟨2, 0, none⟩ = some (.iface 111 (.pointer (some (A 3)))) := S1.cell 3 (by decide) (by decide)
  have g4 : w1.cell? ⟨3, 0, none⟩ = some (.iface 111 (.pointer (some (A 4)))) := S1.cell 4 (by decide) (by decide)
  have g5 : w1.cell? ⟨4, 0, none⟩ = some (.iface 111 (.pointer (some (A 5)))) := S1.cell 5 (by decide) (by decide)
  have g6 : w1.cell? ⟨5, 0, none⟩ = some (.iface 111 (.pointer (some (A 6)))) := S1.cell 6 (by decide) (by decide)
  have g7 : w1.cell? ⟨6, 0, none⟩ = some (.iface 111 (.pointer (some (A 7)))) := S1.cell 7 (by decide) (by decide)
  have g8 : w1.cell? ⟨7, 0, none⟩ = some (.iface 111 (.pointer (some (A 8)))) := S1.cell 8 (by decide) (by decide)
  have g9 : w1.cell? ⟨8, 0, none⟩ = some (.iface 111 (.pointer (some (A 9)))) := S1.cell 9 (by decide) (by decide)
  have g10 : w1.cell? ⟨9, 0, none⟩ = some (.iface 111 (.pointer (some (A 10)))) := S1.cell 10 (by decide) (by decide)
  have HS1 := Lib.hid S1; have HB := Lib.hid b01
  clear S1 b0 b1 b01
  go_wp2_with fail
  clear g1 g2 g3 g4 g5 g6 g7 g8 g9 g10
  have R := RowAt.new w1 30 (tenVs A)
  have b2 : Below w.heap.size w (w1.alloc (.cells (tenVs A).toArray 30)) := HB.out.alloc HB.out.size _
  have HR := Lib.hid R
  have HB2 := Lib.hid b2
  clear R b2 HB HS1
  go_loopw [28, 3] (fun i s3 wr => ∃ k : Nat, k < c ∧ i = .int .i64 k ∧ s3 = .int .i64 (-1) ∧ RowAt w1.heap.size 30 (tenVs A) wr ∧ Below w.heap.size w wr) (fun i _ _ => 10 - (intOf i).toNat)
  case atStart => exact ⟨0, by omega, rfl, rfl, HR.out, HB2.out⟩
  case round =>
    clear HR HB2
    obtain ⟨k, hk, rfl, rfl, R, hb⟩ := hrel
    have hck := (R.cell k).trans (tenVs_get A k (by omega))
    have S2 := HS.out.below hb
    have HB := Lib.hid hb; have HR := Lib.hid R; have HS2 := Lib.hid S2
    clear R hb S2
    obtain ⟨ca, ta, hca⟩ := HS2.out.blk c h1 h10
    obtain ⟨cb, tb, hcb⟩ := HS2.out.blk (k + 1) (by omega) (by omega)
    have HCA := Lib.hid hca; have HCB := Lib.hid hcb
    clear hca hcb
    by_cases hkc : k + 1 = c
    · subst hkc
      go_wp2_with fail
      refine (is_same _ _).mono ?_
      rintro e w' ⟨rfl, rfl⟩
      go_wp2_with fail
      go_ret2
      exact ⟨rfl, HB.out⟩
    · have hne := HS2.out.ne c (k + 1) h1 h10 (by omega) (by omega) (Ne.symm hkc)
      have HNE := Lib.hid hne; clear hne
      go_wp2_with fail
      refine (is_other _ _ _ _ _ _ _ HNE.out HCA.out HCB.out).mono ?_
      rintro e w' ⟨rfl, rfl⟩
      go_wp2_with fail
      go_roundw
      case rel => exact ⟨k + 1, by omega, by go_num, rfl, HR.out, HB.out⟩
      case measure => simp [intOf]; omega

set_option maxHeartbeats 1000000 in
set_option maxRecDepth 8000 in
/-- a fault: its error's number, and its place -/
theorem code_fault (A : Nat → Addr) (c : Nat) (h1 : 1 ≤ c) (h10 : c ≤ 10) (at_ : Int) (g : Nat) (w : World) (hS : Sents A w) (c0 : w.cell? ⟨g, 0, none⟩ = some (.int .i64 at_)) (c1 : w.cell? ⟨g, 1, none⟩ = some (.iface 111 (.pointer (some (A c))))) :
    Calls Tryd.prog 53 #[.iface 70 (.pointer (some ⟨g, 0, none⟩))] w (CodePost c at_ w) := by
  have HS := Lib.hid hS; clear hS
  have HC0 := Lib.hid c0; have HC1 := Lib.hid c1
  have hgl := World.block_lt_of_cell? _ _ c0
  clear c0 c1
  go_enter Tryd.func53, Tryd.ntmps53
  go_wp2_with fail
  have b0 : Below w.heap.size w (w.alloc (.cells #[.pointer none] 70)) := (Below.refl _ _).alloc (Nat.le_refl _) _
  refine (as_hit _ _ (.pointer none) _ (HS.out.below b0).typ (by simp) (by simp)).mono ?_
  rintro e w1 ⟨rfl, k1, ht⟩
  have b01 : Below w.heap.size w w1 := Keep.after b0 k1 (fun i hi => by rw [hi]; exact Nat.le_refl _)
  have S1 := HS.out.below b01
  have g1 : w1.cell? ⟨0, 0, none⟩ = some (.iface 111 (.pointer (some (A 1)))) := S1.cell 1 (by decide) (by decide)
  have g2 : w1.cell? ⟨1, 0, none⟩ = some (.iface 111 (.pointer (some (A 2)))) := S1.cell 2 (by decide) (by decide)
  have g3 : w1.cell? ⟨2, 0, none⟩ = some (.iface 111 (.pointer (some (A 3)))) := S1.cell 3 (by decide) (by decide)
  have g4 : w1.cell? ⟨3, 0, none⟩ = some (.iface 111 (.pointer (some (A 4)))) := S1.cell 4 (by decide) (by decide)
  have g5 : w1.cell? ⟨4, 0, none⟩ = some (.iface 111 (.pointer (some (A 5)))) := S1.cell 5 (by decide) (by decide)
  have g6 : w1.cell? ⟨5, 0, none⟩ = some (.iface 111 (.pointer (some (A 6)))) := S1.cell 6 (by decide) (by decide)
  have g7 : w1.cell? ⟨6, 0, none⟩ = some (.iface 111 (.pointer (some (A 7)))) := S1.cell 7 (by decide) (by decide)
  have g8 : w1.cell? ⟨7, 0, none⟩ = some (.iface 111 (.pointer (some (A 8)))) := S1.cell 8 (by decide) (by decide)
  have g9 : w1.cell? ⟨8, 0, none⟩ = some (.iface 111 (.pointer (some (A 9)))) := S1.cell 9 (by decide) (by decide)
  have g10 : w1.cell? ⟨9, 0, none⟩ = some (.iface 111 (.pointer (some (A 10)))) := S1.cell 10 (by decide) (by decide)
  have q0 := HC0.out
  rw [← b01.cell (p := ⟨g, 0, none⟩) hgl] at q0
  have HB := Lib.hid b01
  clear S1 b0 b01 k1
  go_wp2_with fail
  clear g1 g2 g3 g4 g5 g6 g7 g8 g9 g10 q0 ht
  have R := RowAt.new w1 30 (tenVs A)
  have b2 : Below w.heap.size w (w1.alloc (.cells (tenVs A).toArray 30)) := HB.out.alloc HB.out.size _
  have HR := Lib.hid R
  have HB2 := Lib.hid b2
  clear R b2 HB
  go_loopw [28, 3] (fun i s3 wr => ∃ k : Nat, k < c ∧ i = .int .i64 k ∧ s3 = .int .i64 at_ ∧ RowAt w1.heap.size 30 (tenVs A) wr ∧ Below w.heap.size w wr) (fun i _ _ => 10 - (intOf i).toNat)
  case atStart => exact ⟨0, by omega, rfl, rfl, HR.out, HB2.out⟩
  case round =>
    clear HR HB2
    obtain ⟨k, hk, rfl, rfl, R, hb⟩ := hrel
    have hck := (R.cell k).trans (tenVs_get A k (by omega))
    have S2 := HS.out.below hb
    have q1 := HC1.out
    rw [← hb.cell (p := ⟨g, 1, none⟩) hgl] at q1
    have HQ := Lib.hid q1; clear q1
    have HB := Lib.hid hb; have HR := Lib.hid R; have HS2 := Lib.hid S2
    clear R hb S2
    obtain ⟨ca, ta, hca⟩ := HS2.out.blk c h1 h10
    obtain ⟨cb, tb, hcb⟩ := HS2.out.blk (k + 1) (by omega) (by omega)
    have HCA := Lib.hid hca; have HCB := Lib.hid hcb
    clear hca hcb
    by_cases hkc : k + 1 = c
    · subst hkc
      go_wp2_with fail
      refine (is_fault_same g 0 _ _ HQ.out).mono ?_
      rintro e w' ⟨rfl, rfl⟩
      go_wp2_with fail
      go_ret2
      exact ⟨rfl, HB.out⟩
    · have hne := HS2.out.ne c (k + 1) h1 h10 (by omega) (by omega) (Ne.symm hkc)
      have HNE := Lib.hid hne; clear hne
      go_wp2_with fail
      refine (is_fault_other g 0 _ _ _ _ _ _ _ HQ.out HNE.out HCA.out HCB.out).mono ?_
      rintro e w' ⟨rfl, rfl⟩
      go_wp2_with fail
      go_roundw
      case rel => exact ⟨k + 1, by omega, by go_num, rfl, HR.out, HB.out⟩
      case measure => simp [intOf]; omega
end Go.Proofs.YtajnfkmkombajaaDoor
