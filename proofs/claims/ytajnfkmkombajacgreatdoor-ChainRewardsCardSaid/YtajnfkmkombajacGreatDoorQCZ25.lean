/-
  Contracts of plain.Code: an error's number and place.
  From a row's cell on listed sentinels (all ten, and errors.errorType) to what the walks ask.
  A chain in memory that is new; a block by its turn; the closed fact of the chain's laws.
  Contracts of the laws' coded and faulted (package bakehouselaw3).
  The walk of ChainTurns.
  A row that says 'leaving', of a function that starts nothing itself; its tied card.
  A []Act argument of the chain's laws, opened: it reads as acts.
-/
import Derived.Test.YtajnfkmkombajacGreatDoorQCZ24
import Derived.Test.YtajnfkmkombajacGreatDoorQCZ18
import Derived.Deep.RegionWith
import Derived.Test.YtajnfkmkombajacGreatDoorQCZ01
import Derived.LaidSub
import Derived.Conc.Holds
import Derived.Leaving
import Derived.SevenTiedAt
import Derived.Test.YtajnfkmkombajacGreatDoorProg
import Derived.Test.YtajnfkmkombajacGreatDoorQCZ14
import Derived.Test.YtajnfkmkombajacGreatDoorQCZ13
set_option linter.unusedVariables false
set_option linter.unusedSimpArgs false
set_option linter.unusedVariables false
namespace Go.Proofs.YtajnfkmkombajacGreatDoor
open Go.RowKit

/-- all ten sentinels: their variables hold them, they are different ones, each in a block that may be written; and errors.errorType -/
structure Sents (A : Nat → Addr) (w : World) : Prop where
  errs : Errs A [1, 2, 3, 4, 5, 6, 7, 8, 9, 10] w
  typ : ErrType w
  blk : ∀ c, 1 ≤ c → c ≤ 10 → ∃ cs t, w.heap[(A c).block]? = some (.cells cs t (0, 0))
  ne : ∀ c d, 1 ≤ c → c ≤ 10 → 1 ≤ d → d ≤ 10 → c ≠ d → A c ≠ A d
theorem Sents.below {A : Nat → Addr} {w w' : World} (h : Sents A w) (hb : Below w.heap.size w w') : Sents A w' :=
  ⟨h.errs.below hb, h.typ.below hb, fun c h1 h2 => by obtain ⟨cs, t, hc⟩ := h.blk c h1 h2; exact ⟨cs, t, below_heap hb hc (lt_of_block hc)⟩, h.ne⟩
theorem Sents.cell {A : Nat → Addr} {w : World} (h : Sents A w) (c : Nat) (h1 : 1 ≤ c) (h2 : c ≤ 10) : w.cell? ⟨gE c, 0, none⟩ = some (.iface 386 (.pointer (some (A c)))) := by
  have := h.errs.cell c (by simp; omega)
  rw [ev_some _ (by omega)] at this; exact this

def evP (A : Nat → Addr) (c : Nat) : Value := .iface 386 (.pointer (some (A c)))
def tenVs (A : Nat → Addr) : List Value := [evP A 1, evP A 2, evP A 3, evP A 4, evP A 5, evP A 6, evP A 7, evP A 8, evP A 9, evP A 10]
theorem tenVs_get (A : Nat → Addr) (k : Nat) (hk : k < 10) : (tenVs A)[k]? = some (.iface 386 (.pointer (some (A (k + 1))))) := by
  match k, hk with
  | 0, _ => rfl
  | 1, _ => rfl
  | 2, _ => rfl
  | 3, _ => rfl
  | 4, _ => rfl
  | 5, _ => rfl
  | 6, _ => rfl
  | 7, _ => rfl
  | 8, _ => rfl
  | 9, _ => rfl

/-- what Code answers -/
def CodePost (c : Nat) (at_ : Int) (w : World) (e : Ending) (w' : World) : Prop := e = .returned (.tuple #[.int .i64 c, .int .i64 at_]) ∧ Below w.heap.size w w'

theorem code_nil (w : World) : Calls Tryz.prog 104 #[.nilIface] w (CodePost 0 (-1) w) := by
  go_enter Tryz.func104, Tryz.ntmps104
  go_wp2
  go_ret2
  exact ⟨rfl, Below.refl _ _⟩

set_option maxHeartbeats 1000000 in
set_option maxRecDepth 8000 in
theorem code_bare (A : Nat → Addr) (c : Nat) (h1 : 1 ≤ c) (h10 : c ≤ 10) (w : World) (hS : Sents A w) :
    Calls Tryz.prog 104 #[.iface 386 (.pointer (some (A c)))] w (CodePost c (-1) w) := by
  have HS := Lib.hid hS; clear hS
  go_enter Tryz.func104, Tryz.ntmps104
  go_wp2_with fail
  have b0 : Below w.heap.size w (w.alloc (.cells #[.pointer none] 198)) := (Below.refl _ _).alloc (Nat.le_refl _) _
  refine (as_miss _ _ _ (HS.out.below b0).typ).mono ?_
  rintro e w1 ⟨rfl, b1⟩
  have b01 := btrans b0 b1
  have S1 := HS.out.below b01
  have g1 : w1.cell? ⟨5, 0, none⟩ = some (.iface 386 (.pointer (some (A 1)))) := S1.cell 1 (by decide) (by decide)
  have g2 : w1.cell? ⟨0, 0, none⟩ = some (.iface 386 (.pointer (some (A 2)))) := S1.cell 2 (by decide) (by decide)
  have g3 : w1.cell? ⟨4, 0, none⟩ = some (.iface 386 (.pointer (some (A 3)))) := S1.cell 3 (by decide) (by decide)
  have g4 : w1.cell? ⟨3, 0, none⟩ = some (.iface 386 (.pointer (some (A 4)))) := S1.cell 4 (by decide) (by decide)
  have g5 : w1.cell? ⟨2, 0, none⟩ = some (.iface 386 (.pointer (some (A 5)))) := S1.cell 5 (by decide) (by decide)
  have g6 : w1.cell? ⟨6, 0, none⟩ = some (.iface 386 (.pointer (some (A 6)))) := S1.cell 6 (by decide) (by decide)
  have g7 : w1.cell? ⟨7, 0, none⟩ = some (.iface 386 (.pointer (some (A 7)))) := S1.cell 7 (by decide) (by decide)
  have g8 : w1.cell? ⟨8, 0, none⟩ = some (.iface 386 (.pointer (some (A 8)))) := S1.cell 8 (by decide) (by decide)
  have g9 : w1.cell? ⟨1, 0, none⟩ = some (.iface 386 (.pointer (some (A 9)))) := S1.cell 9 (by decide) (by decide)
  have g10 : w1.cell? ⟨9, 0, none⟩ = some (.iface 386 (.pointer (some (A 10)))) := S1.cell 10 (by decide) (by decide)
  have HS1 := Lib.hid S1; have HB := Lib.hid b01
  clear S1 b0 b1 b01
  go_wp2_with fail
  clear g1 g2 g3 g4 g5 g6 g7 g8 g9 g10
  have R := RowAt.new w1 51 (tenVs A)
  have b2 : Below w.heap.size w (w1.alloc (.cells (tenVs A).toArray 51)) := HB.out.alloc HB.out.size _
  have HR := Lib.hid R
  have HB2 := Lib.hid b2
  clear R b2 HB HS1
  go_loopw [28, 3] (fun i s3 wr => ∃ k : Nat, k < c ∧ i = .int .i64 k ∧ s3 = .int .i64 (-1) ∧ RowAt w1.heap.size 51 (tenVs A) wr ∧ Below w.heap.size w wr) (fun i _ _ => 10 - (intOf i).toNat)
  case atStart => exact ⟨0, by omega, rfl, rfl, HR.out, HB2.out⟩
  case round =>
    clear HR HB2
    obtain ⟨k, hk, rfl, rfl, R, hb⟩ := hrel
    have hck := (R.cell k).trans (tenVs_get A k (by omega))
    have S2 := HS.out.below hb
    have HB := Lib.hid hb; have HR := Lib.hid R; have HS2 := Lib.hid S2
    clear R hb S2
    obtain ⟨ca, ta, hca⟩ := HS2.out.blk c h1 h10
    obtain ⟨cb, tb, hcb⟩ := HS2.out.blk (k + 1) (by omega) (by omega)
    have HCA := Lib.hid hca; have HCB := Lib.hid hcb
    clear hca hcb
    by_cases hkc : k + 1 = c
    · subst hkc
      go_wp2_with fail
      refine (is_same _ _).mono ?_
      rintro e w' ⟨rfl, rfl⟩
      go_wp2_with fail
      go_ret2
      exact ⟨rfl, HB.out⟩
    · have hne := HS2.out.ne c (k + 1) h1 h10 (by omega) (by omega) (Ne.symm hkc)
      have HNE := Lib.hid hne; clear hne
      go_wp2_with fail
      refine (is_other _ _ _ _ _ _ _ HNE.out HCA.out HCB.out).mono ?_
      rintro e w' ⟨rfl, rfl⟩
      go_wp2_with fail
      go_roundw
      case rel => exact ⟨k + 1, by omega, by go_num, rfl, HR.out, HB.out⟩
      case measure => simp [intOf]; omega

set_option maxHeartbeats 1000000 in
set_option maxRecDepth 8000 in
/-- a fault: its error's number, and its place -/
theorem code_fault (A : Nat → Addr) (c : Nat) (h1 : 1 ≤ c) (h10 : c ≤ 10) (at_ : Int) (g : Nat) (w : World) (hS : Sents A w) (c0 : w.cell? ⟨g, 0, none⟩ = some (.int .i64 at_)) (c1 : w.cell? ⟨g, 1, none⟩ = some (.iface 386 (.pointer (some (A c))))) :
    Calls Tryz.prog 104 #[.iface 198 (.pointer (some ⟨g, 0, none⟩))] w (CodePost c at_ w) := by
  have HS := Lib.hid hS; clear hS
  have HC0 := Lib.hid c0; have HC1 := Lib.hid c1
  have hgl := World.block_lt_of_cell? _ _ c0
  clear c0 c1
  go_enter Tryz.func104, Tryz.ntmps104
  go_wp2_with fail
  have b0 : Below w.heap.size w (w.alloc (.cells #[.pointer none] 198)) := (Below.refl _ _).alloc (Nat.le_refl _) _
  refine (as_hit _ _ (.pointer none) _ (HS.out.below b0).typ (by simp) (by simp)).mono ?_
  rintro e w1 ⟨rfl, k1, ht⟩
  have b01 : Below w.heap.size w w1 := Keep.after b0 k1 (fun i hi => by rw [hi]; exact Nat.le_refl _)
  have S1 := HS.out.below b01
  have g1 : w1.cell? ⟨5, 0, none⟩ = some (.iface 386 (.pointer (some (A 1)))) := S1.cell 1 (by decide) (by decide)
  have g2 : w1.cell? ⟨0, 0, none⟩ = some (.iface 386 (.pointer (some (A 2)))) := S1.cell 2 (by decide) (by decide)
  have g3 : w1.cell? ⟨4, 0, none⟩ = some (.iface 386 (.pointer (some (A 3)))) := S1.cell 3 (by decide) (by decide)
  have g4 : w1.cell? ⟨3, 0, none⟩ = some (.iface 386 (.pointer (some (A 4)))) := S1.cell 4 (by decide) (by decide)
  have g5 : w1.cell? ⟨2, 0, none⟩ = some (.iface 386 (.pointer (some (A 5)))) := S1.cell 5 (by decide) (by decide)
  have g6 : w1.cell? ⟨6, 0, none⟩ = some (.iface 386 (.pointer (some (A 6)))) := S1.cell 6 (by decide) (by decide)
  have g7 : w1.cell? ⟨7, 0, none⟩ = some (.iface 386 (.pointer (some (A 7)))) := S1.cell 7 (by decide) (by decide)
  have g8 : w1.cell? ⟨8, 0, none⟩ = some (.iface 386 (.pointer (some (A 8)))) := S1.cell 8 (by decide) (by decide)
  have g9 : w1.cell? ⟨1, 0, none⟩ = some (.iface 386 (.pointer (some (A 9)))) := S1.cell 9 (by decide) (by decide)
  have g10 : w1.cell? ⟨9, 0, none⟩ = some (.iface 386 (.pointer (some (A 10)))) := S1.cell 10 (by decide) (by decide)
  have q0 := HC0.out
  rw [← b01.cell (p := ⟨g, 0, none⟩) hgl] at q0
  have HB := Lib.hid b01
  clear S1 b0 b01 k1
  go_wp2_with fail
  clear g1 g2 g3 g4 g5 g6 g7 g8 g9 g10 q0 ht
  have R := RowAt.new w1 51 (tenVs A)
  have b2 : Below w.heap.size w (w1.alloc (.cells (tenVs A).toArray 51)) := HB.out.alloc HB.out.size _
  have HR := Lib.hid R
  have HB2 := Lib.hid b2
  clear R b2 HB
  go_loopw [28, 3] (fun i s3 wr => ∃ k : Nat, k < c ∧ i = .int .i64 k ∧ s3 = .int .i64 at_ ∧ RowAt w1.heap.size 51 (tenVs A) wr ∧ Below w.heap.size w wr) (fun i _ _ => 10 - (intOf i).toNat)
  case atStart => exact ⟨0, by omega, rfl, rfl, HR.out, HB2.out⟩
  case round =>
    clear HR HB2
    obtain ⟨k, hk, rfl, rfl, R, hb⟩ := hrel
    have hck := (R.cell k).trans (tenVs_get A k (by omega))
    have S2 := HS.out.below hb
    have q1 := HC1.out
    rw [← hb.cell (p := ⟨g, 1, none⟩) hgl] at q1
    have HQ := Lib.hid q1; clear q1
    have HB := Lib.hid hb; have HR := Lib.hid R; have HS2 := Lib.hid S2
    clear R hb S2
    obtain ⟨ca, ta, hca⟩ := HS2.out.blk c h1 h10
    obtain ⟨cb, tb, hcb⟩ := HS2.out.blk (k + 1) (by omega) (by omega)
    have HCA := Lib.hid hca; have HCB := Lib.hid hcb
    clear hca hcb
    by_cases hkc : k + 1 = c
    · subst hkc
      go_wp2_with fail
      refine (is_fault_same g 0 _ _ HQ.out).mono ?_
      rintro e w' ⟨rfl, rfl⟩
      go_wp2_with fail
      go_ret2
      exact ⟨rfl, HB.out⟩
    · have hne := HS2.out.ne c (k + 1) h1 h10 (by omega) (by omega) (Ne.symm hkc)
      have HNE := Lib.hid hne; clear hne
      go_wp2_with fail
      refine (is_fault_other g 0 _ _ _ _ _ _ _ HQ.out HNE.out HCA.out HCB.out).mono ?_
      rintro e w' ⟨rfl, rfl⟩
      go_wp2_with fail
      go_roundw
      case rel => exact ⟨k + 1, by omega, by go_num, rfl, HR.out, HB.out⟩
      case measure => simp [intOf]; omega
end Go.Proofs.YtajnfkmkombajacGreatDoor
namespace Go.Proofs.YtajnfkmkombajacGreatDoor
open Go.RowKit Go.ChangeShapes

set_option maxRecDepth 100000 in
/-- the listed errors' own places, blocks, and that they differ -/
theorem sents_vars {W : World} (PS : List MemPlace) (hrows : ∀ b off, MemPlace.cell b off ∈ PS → (∃ c t, W.heap[b]? = some (.cells c t (0, 0))) ∧ ∀ u v, W.cell? ⟨b, off, none⟩ = some (.iface u v) → Value.okWide Tryz.prog W .any 0 u v) :
    ∀ (cs : List Nat) (l : List (String × DataW Unit)) (ps : List MemPlace), LaidAs cs l → DataW.LaidVars Tryz.prog W l ps → ps.Nodup → (∀ x ∈ ps, x ∈ PS) →
    ∃ A : Nat → Addr, (∀ c ∈ cs, W.cell? ⟨gE c, 0, none⟩ = some (ev A c)) ∧ (∀ c ∈ cs, MemPlace.cell (A c).block (A c).off ∈ ps) ∧ ∀ c ∈ cs, ∀ d ∈ cs, c ≠ d → A c ≠ A d
  | [], [], _, _, _, _, _ => ⟨fun _ => ⟨0, 0, none⟩, (fun c hc => by cases hc), (fun c hc => by cases hc), fun c hc => by cases hc⟩
  | c :: cs, (n, d) :: r, ps, ⟨⟨h0, h1, h2, h3, text, h4⟩, hr⟩, hv, hnd, hsub => by
    obtain ⟨g, t, xs, fuel, p, q, e1, e2, e3, e4, hq, rfl⟩ := hv
    simp only at h4 h2
    subst h4
    obtain rfl := Option.some.inj (h2.symm.trans e1)
    obtain rfl := Option.some.inj (h3.symm.trans e2)
    obtain ⟨l0⟩ := xs
    have ok0 : ∀ u v, l0 = [.iface u v] → Value.okWide Tryz.prog W .any 0 u v := fun u v e => by
      subst e
      exact (hrows (gE c) 0 (hsub _ (by simp [MemPlace.row]))).2 u v (by simpa using World.var?_cell e1 e3 0)
    obtain ⟨a0, s0, rfl, hc0, hs0, hz0, rfl⟩ := errorString_of_trod Tryz.underlying51 Tryz.rowErr Tryz.underlying386 Tryz.underlying388 rfl rfl Tryz.underlying9 Tryz.cellsErr Tryz.cellsStr e4 ok0
    have hnq : q.Nodup := (List.nodup_append.1 hnd).2.1
    obtain ⟨A, hA1, hA2, hA3⟩ := sents_vars PS hrows cs r q hr hq hnq (fun x hx => hsub x (by simp [hx]))
    refine ⟨fun k => if k = c then a0 else A k, fun k hk => ?_, fun k hk => ?_, fun k hk j hj hkj => ?_⟩
    · by_cases hkc : k = c
      · subst hkc
        have := World.var?_cell e1 e3 0
        rw [ev_some _ h0]
        simpa using this
      · have hk' : k ∈ cs := by simpa [hkc] using hk
        have := hA1 k hk'
        rw [this]; simp [ev, hkc]
    · by_cases hkc : k = c
      · subst hkc; simp only [if_true]; exact List.mem_append_left _ (by simp [MemPlace.row])
      · simp only [if_neg hkc]; exact List.mem_append_right _ (hA2 k (by simpa [hkc] using hk))
    · have far : ∀ m ∈ cs, A m ≠ a0 := by
        intro m hm e
        have h1 := hA2 m hm
        rw [e] at h1
        exact (List.nodup_append.1 hnd).2.2 _ (by simp [MemPlace.row]) _ h1 rfl
      by_cases hkc : k = c
      · have hjc : j ≠ c := fun e => hkj (by rw [hkc, e])
        simp only [if_pos hkc, if_neg hjc]
        exact fun e => far j (by simpa [hjc] using hj) e.symm
      · by_cases hjc : j = c
        · simp only [if_neg hkc, if_pos hjc]
          exact far k (by simpa [hkc] using hk)
        · simp only [if_neg hkc, if_neg hjc]
          exact hA3 k (by simpa [hkc] using hk) j (by simpa [hjc] using hj) hkj
  | [], _ :: _, _, h, _, _, _ => h.elim
  | _ :: _, [], _, h, _, _, _ => h.elim

def errorName : List UInt8 := [101, 114, 114, 111, 114]
theorem only_error : ((List.range Tryz.prog.types.size).all fun ty => !Tryz.prog.rowNamed ty errorName || ty == 51) = true := by kernel_rfl
theorem rtype_at : (Tryz.prog.cutTypes.find? (·.1 == "internal/reflectlite.rtype")).map (·.2) = some 307 := by kernel_rfl
theorem globals_size : Tryz.prog.globals.size = 26 := by kernel_rfl

theorem sents_of_laid {W : World} {L : List (String × DataW Unit)} (hL : laidMetH Tryz.prog L W) (h1 : LaidAs [1, 2, 3, 4, 5, 6, 7, 8, 9, 10] (L.filter fun x => x.2.handleName?.isNone))
    (h2 : ("errors.errorType", DataW.iface "internal/reflectlite.rtype" (.agg [.ptr (.lit (.string errorName))])) ∈ L) (h3 : Tryz.prog.globalNamed "errors.errorType" = some 10) : ∃ A, Sents A W := by
  obtain ⟨hm, hh⟩ := laidMetH_iff.1 hL
  obtain ⟨ps, hv, hnd, hrows⟩ := hm
  obtain ⟨A, a1, a2, a3⟩ := sents_vars ps hrows _ _ ps h1 hv hnd (fun x hx => hx)
  refine ⟨A, ⟨⟨a1⟩, ?_, fun c c1 c2 => ?_, fun c d c1 c2 d1 d2 hcd => a3 c (by simp; omega) d (by simp; omega) hcd⟩⟩
  · have := hh _ (List.mem_filter.2 ⟨h2, by rfl⟩)
    have hf : (DataW.iface (H := Unit) "internal/reflectlite.rtype" (.agg [.ptr (.lit (.string errorName))])).funcsIn? = none := by kernel_rfl
    rw [show (("errors.errorType", DataW.iface (H := Unit) "internal/reflectlite.rtype" (.agg [.ptr (.lit (.string errorName))])) : String × DataW Unit).2.funcsIn? = none from hf] at this
    obtain ⟨name, u, ty, e1, e2, e3, e4, e5⟩ := this
    have hn : name = errorName := by
      have h0 : (DataW.iface (H := Unit) "internal/reflectlite.rtype" (.agg [.ptr (.lit (.string errorName))])).handleName? = some errorName := by kernel_rfl
      exact Option.some.inj (e1.symm.trans h0)
    subst hn
    rw [rtype_at] at e2
    obtain rfl := Option.some.inj e2
    have hty : ty = 51 := by
      have := List.all_eq_true.1 only_error ty (List.mem_range.2 e3)
      rw [e4] at this
      simpa using this
    subst hty
    have := World.var?_cell h3 e5 0
    unfold ErrType
    simpa [typeHandle, globals_size] using this
  · obtain ⟨cs, t, hc⟩ := (hrows _ _ (a2 c (by simp; omega))).1
    exact ⟨cs, t, hc⟩
end Go.Proofs.YtajnfkmkombajacGreatDoor
namespace Go.Proofs.YtajnfkmkombajacGreatDoor
open Go.RowKit Go.Maps

/-- a chain in memory that is new since W -/
structure CN (W : World) (cb : Nat) (K : ChL) (n sd : Nat) (x : CS) (w : World) : Prop where
  below : Below W.heap.size W w
  ch : ChainL cb K n sd x w
  new : ∀ b, K.foot cb b → W.heap.size ≤ b
section
variable {W w w' : World} {cb cb2 n m n2 sd sd2 : Nat} {K K' K2 : ChL} {x y z : CS} {G : Nat → Prop}
theorem CN.go (h : CN W cb K n sd x w) : ChGo w (K.foot cb) cb K n sd x w := ChGo.start h.ch (fun _ hb => hb) h.ch.footlt
theorem CN.of (h : CN W cb K n sd x w) (k : ChGo w (K.foot cb) cb K' m sd y w') : CN W cb K' m sd y w' :=
  ⟨Keep.after h.below k.keep h.new, k.ch, fun b hb => (k.foot b hb).elim (h.new b) (fun ⟨a, _⟩ => Nat.le_trans h.below.size a)⟩
theorem CN.next (h : CN W cb K n sd x w) (b : Below w.heap.size w w') : CN W cb K n sd x w' := ⟨btrans h.below b, h.ch.below b, h.new⟩
theorem CN.drewN (h : CN W cb K n sd x w) (j : Nat) : CN W cb K n sd x (w.drewN j) := h.next ((Below.refl _ _).drewN j)
theorem CN.other (h : CN W cb K n sd x w) (k : Keep G w w') (hG : ∀ b, G b → W.heap.size ≤ b) (hd : ∀ b, K.foot cb b → ¬ G b) : CN W cb K n sd x w' := ⟨Keep.after h.below k hG, h.ch.keep k hd, h.new⟩
theorem CN.fe {A : Nat → Addr} {S : List Nat} (h : CN W cb K n sd x w) (hE : Errs A S W) : ∀ c ∈ S, ¬ K.foot cb (gE c) := fun c hc hf => by have := h.new _ hf; have := hE.lt hc; omega
theorem CN.errs {A : Nat → Addr} {S : List Nat} (h : CN W cb K n sd x w) (hE : Errs A S W) : Errs A S w := hE.below h.below
theorem CN.since {W0 : World} (h : CN W cb K n sd x w) (b : Below W0.heap.size W0 W) : CN W0 cb K n sd x w := ⟨b.trans (h.below.mono b.size), h.ch, fun c hc => Nat.le_trans b.size (h.new c hc)⟩
theorem ChGo.cn (h : ChGo W noF cb K n sd x w) : CN W cb K n sd x w := ⟨⟨h.keep.os, h.keep.tape, h.keep.output, h.keep.size, fun k hk => h.keep.block k hk id⟩, h.ch, fun b hb => (h.foot b hb).elim (fun e => e.elim) (·.1)⟩
end

noncomputable def CS.btV (x : CS) (sd : Nat) (r : Int) : Int := if x.turnC r = 0 then x.turnV sd r else 0
noncomputable def CS.btN (x : CS) (sd : Nat) (r : Int) : Int := if x.turnC r = 0 then (x.reward (x.turnV sd r)).1 else 0
noncomputable def CS.btS (x : CS) (sd : Nat) (r : Int) : CS := if x.turnC r = 0 then (x.reward (x.turnV sd r)).2.stepOp else x

section
variable (A : Nat → Addr) (S : List Nat) (W : World) (F : Nat → Prop) (cb : Nat) (K : ChL) (n sd : Nat) (x : CS) (w : World)
set_option maxRecDepth 8000 in
theorem law_bakeTurn (r : Int) (h : ChGo W F cb K n sd x w) (hx : x.Inv) (hs : sd < 18446744073709551616) (hE : Errs A S W) (hFE : ∀ c ∈ S, ¬ F (gE c)) (h2 : 2 ∈ S) (h3 : 3 ∈ S) (h4 : 4 ∈ S) (h6 : 6 ∈ S) (h9 : 9 ∈ S) (hW : x.s.W.length ≤ 8000) (hn : n + 1 ≤ 1000000) (hk : x.k.L.length ≤ 1000000) :
    Calls Tryz.prog 81 #[.pointer (some ⟨cb, 0, none⟩), .int .i64 r] w fun e w' => e = .returned (.tuple #[.int .i64 (x.btV sd r), .int .i64 (x.btN sd r), ev A (x.turnC r)]) ∧ ∃ K', ChGo W F cb K' (n + 1) sd (x.btS sd r) w' := by
  have H0 := Lib.hid h
  have HT := Lib.hid (chain_Turn A S W F cb K n sd x r w h hx hs hE hFE h2 h3 h4)
  have HB := Lib.hid (fun wx (hg : ChGo W F cb K n sd x wx) => chain_Bake A S W F cb K n sd x wx (x.turnV sd r) r hg hx hs hE hFE h2 h3 h4 h6 h9 hW hn hk)
  clear h hx hE hFE
  by_cases hc : x.turnC r = 0
  · have E1 := Lib.hid (show x.btV sd r = x.turnV sd r from if_pos hc)
    have E2 := Lib.hid (show x.btN sd r = (x.reward (x.turnV sd r)).1 from if_pos hc)
    have E3 := Lib.hid (show x.btS sd r = (x.reward (x.turnV sd r)).2.stepOp from if_pos hc)
    have E4 := Lib.hid (show x.bakeOp sd (x.turnV sd r) r = ((x.reward (x.turnV sd r)).1, 0, (x.reward (x.turnV sd r)).2.stepOp) by unfold CS.bakeOp; rw [if_neg (by simp [hc]), if_neg (by simp)])
    rw [E4.out] at HB
    simp only [ev_nil] at HB
    have HC := Lib.hid (show ev A (x.turnC r) = .nilIface by rw [hc]; rfl)
    rw [HC.out] at HT
    clear hc E4
    go_enter Tryz.func81, Tryz.ntmps81
    go_wp2_with fail
    refine HT.out.mono ?_
    rintro e w1 ⟨rfl, b1⟩
    have H1 := Lib.hid (H0.out.below b1); clear b1
    go_wp2_with fail
    refine (HB.out _ H1.out).mono ?_
    rintro e w2 ⟨rfl, K2, g2⟩
    have H2 := Lib.hid g2; clear g2
    go_wp2_with fail
    go_ret3
    exact ⟨by rw [E1.out, E2.out, HC.out]; rfl, by rw [E3.out]; exact ⟨K2, H2.out⟩⟩
  · have E1 := Lib.hid (show x.btV sd r = 0 from if_neg hc)
    have E2 := Lib.hid (show x.btN sd r = 0 from if_neg hc)
    have E3 := Lib.hid (show x.btS sd r = x from if_neg hc)
    have HC := Lib.hid (ev_some A hc)
    rw [HC.out] at HT
    clear hc
    go_enter Tryz.func81, Tryz.ntmps81
    go_wp2_with fail
    refine HT.out.mono ?_
    rintro e w1 ⟨rfl, b1⟩
    have H1 := Lib.hid (H0.out.below b1); clear b1
    go_wp2_with fail
    go_ret3
    exact ⟨by rw [E1.out, E2.out, HC.out]; rfl, by rw [E3.out]; exact ⟨K, H1.out.mono (Nat.le_succ n)⟩⟩
end

theorem turnV_bd {x : CS} (h : x.Inv) (sd : Nat) (r : Int) : 0 ≤ x.turnV sd r ∧ x.turnV sd r < 3 := by
  unfold CS.turnV
  split
  · have hl : x.pics.getD 0 [] ∈ x.pics := getD_mem _ _ _ (by rw [h.three]; decide)
    obtain ⟨h1, h2, h3⟩ := h.pic _ hl
    obtain ⟨k, e, hk, _⟩ := bakerV_weight (zs := x.pics.getD 0 []) (by rw [pic_fine ⟨h2, h1, h3⟩]) sd x.cycle x.level r
    rw [h1] at hk
    rw [e]; omega
  · omega
theorem begun_facts : CS.new.turnC 0 = 0 ∧ ∀ sd, 0 ≤ CS.new.turnV sd 0 ∧ CS.new.turnV sd 0 < 3 := by
  refine ⟨?_, fun sd => turnV_bd CS.new_inv sd 0⟩
  unfold CS.turnC
  rw [if_pos (by show roundOk 0 0 0; decide)]

set_option maxRecDepth 8000 in
set_option maxHeartbeats 1000000 in
theorem law_begun (A : Nat → Addr) (S : List Nat) (w : World) (hS : Errs A S w) (mS : ∀ c ∈ [2, 3, 4, 5, 6, 7, 8, 9], c ∈ S) :
    Calls Tryz.prog 31 #[] w fun e w' => e = .returned (.bool true) ∧ Below w.heap.size w w' := by
  have HS := Lib.hid hS; clear hS
  have m2 := mS 2 (by decide)
  have m3 := mS 3 (by decide)
  have m4 := mS 4 (by decide)
  have m5 := mS 5 (by decide)
  have m6 := mS 6 (by decide)
  have m7 := mS 7 (by decide)
  have m8 := mS 8 (by decide)
  have m9 := mS 9 (by decide)
  obtain ⟨f1, f2⟩ := begun_facts
  obtain ⟨t0, t3⟩ := f2 7
  obtain ⟨r1, r2, -, r4⟩ := new_reward t0 t3
  have V1 := Lib.hid (show CS.new.btV 7 0 = CS.new.turnV 7 0 from if_pos f1)
  have V2 := Lib.hid (show CS.new.btN 7 0 = 540 by rw [← r1]; exact if_pos f1)
  have V3 := Lib.hid (show CS.new.btS 7 0 = (CS.new.reward (CS.new.turnV 7 0)).2.stepOp from if_pos f1)
  have V4 := Lib.hid (show ev A (CS.new.turnC 0) = .nilIface by rw [f1]; rfl)
  have V5 := Lib.hid (show (CS.new.btS 7 0).level = 1 by rw [V3.out]; exact r2)
  have V6 := Lib.hid (show (CS.new.btS 7 0).p.supply = 60540 by rw [V3.out]; exact r4)
  clear f1 f2 r1 r2 r4 V3
  go_enter Tryz.func31, Tryz.ntmps31
  go_wp2_with fail
  refine (chain_New A S 7 _ HS.out m2 m4 m5 m6 m7 m8).mono ?_
  rintro e w1 ⟨cb, K, rfl, g1⟩
  have H1 := Lib.hid g1.cn; clear g1
  have c0 := H1.out.go.c0
  go_wp2_with fail
  refine (purse_Supply K.pb CS.new.p _ H1.out.ch.purse).mono ?_
  rintro e w2 ⟨rfl, rfl⟩
  rw [show CS.new.p.supply = 60000 from rfl]
  go_wp2_with fail
  refine (purse_Has K.pb CS.new.p 0 _ H1.out.ch.purse).mono ?_
  rintro e w2 ⟨rfl, rfl⟩
  rw [show (if ownB 0 then CS.new.p.at 0 else 0) = 9000 from rfl]
  go_wp2_with fail
  refine (chain_Cycle H1.out.go).mono ?_
  rintro e w2 ⟨rfl, rfl⟩
  rw [show CS.new.cycle = 0 from rfl]
  go_wp2_with fail
  refine (law_bakeTurn A S _ _ cb K 3 7 CS.new _ 0 H1.out.go CS.new_inv (by decide) (H1.out.errs HS.out) (H1.out.fe HS.out) m2 m3 m4 m6 m9 (by decide) (by decide) (by decide)).mono ?_
  rintro e w2 ⟨rfl, K2, g2⟩
  have H2 := Lib.hid (H1.out.of g2); clear g2
  rw [V1.out, V2.out, V4.out]
  generalize CS.new.turnV 7 0 = tv at *
  have d0 := H2.out.go.c0
  go_wp2_with fail
  refine (chain_Level H2.out.go).mono ?_
  rintro e w3 ⟨rfl, rfl⟩
  rw [V5.out]
  go_wp2_with fail
  refine (purse_Supply K2.pb _ _ H2.out.ch.purse).mono ?_
  rintro e w3 ⟨rfl, rfl⟩
  rw [V6.out]
  go_wp2_with fail
  go_ret
  exact ⟨rfl, H2.out.below⟩
end Go.Proofs.YtajnfkmkombajacGreatDoor
namespace Go.Proofs.YtajnfkmkombajacGreatDoor
open Go.RowKit

theorem law3_coded (A : Nat → Addr) (c : Nat) (hc : c ≤ 10) (w : World) (hS : Sents A w) :
    Calls Tryz.prog 46 #[ev A c, .int .i64 c] w fun e w' => e = .returned (.bool true) ∧ Below w.heap.size w w' := by
  have HS := Lib.hid hS; clear hS
  by_cases h0 : c = 0
  · subst h0
    simp only [ev_nil, Int.natCast_zero]
    go_enter Tryz.func46, Tryz.ntmps46
    go_wp2_with fail
    refine (code_nil _).mono ?_
    rintro e w' ⟨rfl, hb⟩
    go_wp2
    go_ret
    exact ⟨rfl, hb⟩
  · have he := ev_some A h0
    rw [he]
    have hcc : ((c : Int) == (c : Int)) = true := beq_self_eq_true _
    clear he
    go_enter Tryz.func46, Tryz.ntmps46
    go_wp2_with fail
    refine (code_bare A c (by omega) hc _ HS.out).mono ?_
    rintro e w' ⟨rfl, hb⟩
    go_wp2
    go_ret
    exact ⟨rfl, hb⟩
end Go.Proofs.YtajnfkmkombajacGreatDoor
namespace Go.Proofs.YtajnfkmkombajacGreatDoor
open Go.RowKit Go.Maps

theorem pic0_fine : weightsF pic0 = (0, -1) := pic_fine ⟨by decide, rfl, by decide⟩
theorem turns_facts (sd : Nat) {r : Int} (h0 : 0 ≤ r) (h8 : r < 8) : CS.new.turnC r = 0 ∧ CS.new.turnV sd r = bakerV pic0 sd 0 0 r ∧ bakerF pic0 0 0 r = (0, -1) := by
  have hr : roundOk 0 0 r := ⟨⟨by decide, by decide⟩, ⟨by decide, by decide⟩, h0, h8⟩
  refine ⟨if_pos hr, if_pos hr, ?_⟩
  unfold bakerF
  rw [if_pos hr]; exact pic0_fine

set_option maxRecDepth 8000 in
set_option maxHeartbeats 1000000 in
theorem turns_good (A : Nat → Addr) (sd : Nat) (hs : sd < 18446744073709551616) (r b : Int) (w : World) (hS : Sents A w) (r0 : 0 ≤ r) (r1 : r < 8) :
    Calls Tryz.prog 7 #[.int .u64 sd, .int .i64 r, .int .i64 b] w fun e w' => e = .returned (.bool true) ∧ Below w.heap.size w w' := by
  have HS := Lib.hid hS; clear hS
  have m2 : (2 : Nat) ∈ [1, 2, 3, 4, 5, 6, 7, 8, 9, 10] := by decide
  have m3 : (3 : Nat) ∈ [1, 2, 3, 4, 5, 6, 7, 8, 9, 10] := by decide
  have m4 : (4 : Nat) ∈ [1, 2, 3, 4, 5, 6, 7, 8, 9, 10] := by decide
  have m5 : (5 : Nat) ∈ [1, 2, 3, 4, 5, 6, 7, 8, 9, 10] := by decide
  have m6 : (6 : Nat) ∈ [1, 2, 3, 4, 5, 6, 7, 8, 9, 10] := by decide
  have m7 : (7 : Nat) ∈ [1, 2, 3, 4, 5, 6, 7, 8, 9, 10] := by decide
  have m8 : (8 : Nat) ∈ [1, 2, 3, 4, 5, 6, 7, 8, 9, 10] := by decide
  have m9 : (9 : Nat) ∈ [1, 2, 3, 4, 5, 6, 7, 8, 9, 10] := by decide
  obtain ⟨f1, f2, f3⟩ := turns_facts sd r0 r1
  obtain ⟨t0, t3⟩ := turnV_bd CS.new_inv sd r
  obtain ⟨q1, q2, q3, -⟩ := new_reward t0 t3
  have V1 := Lib.hid (show ev A (CS.new.turnC r) = .nilIface by rw [f1]; rfl)
  have V2 := Lib.hid f2
  have V3 := Lib.hid f3
  have V4 := Lib.hid f1
  have Q1 := Lib.hid q1; have Q2 := Lib.hid q2; have Q3 := Lib.hid q3
  have x1 : decide (r < 0) = false := by simp; omega
  have x2 : decide (8 ≤ r) = false := by simp; omega
  clear f1 f2 f3 t0 t3 q1 q2 q3 r0 r1
  go_enter Tryz.func7, Tryz.ntmps7
  go_wp2_with fail
  refine (law_begun A [1, 2, 3, 4, 5, 6, 7, 8, 9, 10] _ HS.out.errs (by decide)).mono ?_
  rintro e w0 ⟨rfl, hb0⟩
  have HB0 := Lib.hid hb0; clear hb0
  have HS0 := Lib.hid (HS.out.below HB0.out)
  go_wp2_with fail
  refine (chain_New A [1, 2, 3, 4, 5, 6, 7, 8, 9, 10] sd _ HS0.out.errs m2 m4 m5 m6 m7 m8).mono ?_
  rintro e w1 ⟨cb, K, rfl, g1⟩
  have H1 := Lib.hid g1.cn; clear g1
  go_wp2_with fail
  refine (chain_Turn A [1, 2, 3, 4, 5, 6, 7, 8, 9, 10] _ _ cb K 3 sd CS.new r _ H1.out.go CS.new_inv hs (H1.out.errs HS0.out.errs) (H1.out.fe HS0.out.errs) m2 m3 m4).mono ?_
  rintro e w2 ⟨rfl, b2⟩
  rw [V1.out]
  have H2 := Lib.hid (H1.out.next b2); clear b2
  have hR := RdI.of_rowAt (k := .i64) (RowAt.new w2 3 (pic0.map (Value.int .i64))) (show pic0.length ≤ maxLen by decide)
  have HR := Lib.hid hR; clear hR
  have HA := Lib.hid (H2.out.next ((Below.refl _ _).alloc (Nat.le_refl _) (.cells #[.int .i64 1000, .int .i64 1000, .int .i64 1000] 3)))
  go_wp2_with fail
  refine (right_Baker A [1, 2, 3, 4, 5, 6, 7, 8, 9, 10] _ 3 pic0 sd hs 0 0 r _ HR.out (HA.out.errs HS0.out.errs) m2 m3 m4).mono ?_
  rintro e w3 ⟨v, rfl, hv, b3⟩
  rw [V3.out] at hv ⊢
  have hv0 : v = .nilIface := hv.yes rfl rfl
  subst hv0
  have H3 := Lib.hid (HA.out.next b3); clear b3 hv
  rw [if_pos (show ((0 : Nat), (-1 : Int)).1 = 0 from rfl), ← V2.out]
  have tt : (CS.new.turnV sd r != CS.new.turnV sd r) = false := bne_self_eq_false _
  have HBK := Lib.hid (chain_Bake A [1, 2, 3, 4, 5, 6, 7, 8, 9, 10] _ _ cb K 3 sd CS.new w3 b r H3.out.go CS.new_inv hs (H3.out.errs HS0.out.errs) (H3.out.fe HS0.out.errs) m2 m3 m4 m6 m9 (by decide) (by decide) (by decide))
  by_cases hbk : CS.new.turnV sd r = b
  · have E := Lib.hid (show CS.new.bakeOp sd b r = ((CS.new.reward b).1, 0, (CS.new.reward b).2.stepOp) by unfold CS.bakeOp; rw [if_neg (by simp [V4.out]), if_neg (by simp [hbk])])
    rw [hbk] at Q1 Q2 Q3 ⊢
    rw [E.out, Q1.out] at HBK
    simp only [ev_nil] at HBK
    have tt2 : (b != b) = false := bne_self_eq_false _
    clear hbk E tt
    go_wp2_with fail
    refine HBK.out.mono ?_
    rintro e w4 ⟨rfl, K4, g4⟩
    have H4 := Lib.hid (H3.out.of g4); clear g4
    go_wp2_with fail
    refine (chain_Level H4.out.go).mono ?_
    rintro e w5 ⟨rfl, rfl⟩
    rw [Q2.out]
    go_wp2_with fail
    refine (chain_Stakes H4.out.go).mono ?_
    rintro e w5 ⟨rfl, rfl⟩
    go_wp2_with fail
    refine (st_Staked b H4.out.ch.st).mono ?_
    rintro e w5 ⟨rfl, rfl⟩
    rw [Q3.out]
    go_wp2_with fail
    go_ret
    exact ⟨rfl, btrans HB0.out H4.out.below⟩
  · have E := Lib.hid (show CS.new.bakeOp sd b r = (0, 9, CS.new) by unfold CS.bakeOp; rw [if_neg (by simp [V4.out]), if_pos hbk])
    rw [E.out] at HBK
    have tt2 : (b != CS.new.turnV sd r) = true := by simp; exact fun h => hbk h.symm
    generalize CS.new.turnV sd r = tv at *
    clear hbk E
    go_wp2_with fail
    refine HBK.out.mono ?_
    rintro e w4 ⟨rfl, K4, g4⟩
    have H4 := Lib.hid (H3.out.of g4); clear g4
    go_wp2_with fail
    refine (law3_coded A 9 (by decide) _ (HS0.out.below H4.out.below)).mono ?_
    rintro e w5 ⟨rfl, b5⟩
    have H5 := Lib.hid (H4.out.next b5); clear b5
    go_wp2_with fail
    refine (chain_Level H5.out.go).mono ?_
    rintro e w6 ⟨rfl, rfl⟩
    rw [show CS.new.level = 0 from rfl]
    go_wp2_with fail
    go_ret
    exact ⟨rfl, btrans HB0.out H5.out.below⟩

set_option maxRecDepth 8000 in
theorem turns_all (A : Nat → Addr) (sd : Nat) (hs : sd < 18446744073709551616) (r b : Int) (w : World) (hS : Sents A w) :
    Calls Tryz.prog 7 #[.int .u64 sd, .int .i64 r, .int .i64 b] w fun e w' => e = .returned (.bool true) ∧ Below w.heap.size w w' := by
  by_cases hg : 0 ≤ r ∧ r < 8
  · exact turns_good A sd hs r b w hS hg.1 hg.2
  · have hcases : r < 0 ∨ (0 ≤ r ∧ 8 ≤ r) := by omega
    have HS := Lib.hid hS; clear hS hg
    rcases hcases with d1 | ⟨d1, d2⟩
    all_goals
      go_enter Tryz.func7, Tryz.ntmps7
      go_wp2_with fail
      refine (law_begun A [1, 2, 3, 4, 5, 6, 7, 8, 9, 10] _ HS.out.errs (by decide)).mono ?_
      rintro e w0 ⟨rfl, hb0⟩
      go_wp2_with fail
      go_ret
      exact ⟨rfl, hb0⟩
end Go.Proofs.YtajnfkmkombajacGreatDoor
namespace Go.Proofs.YtajnfkmkombajacGreatDoor
open Go

/-- who returns alone returns with others that only leave -/
theorem handed_leaving {a : Assume} {C : Checked} {os : Os} {f : FuncId} {r : Reach} {Pre : World → Array Value → Prop} {Post : World → Array Value → Value → World → Prop} (h : ReturnsInHanded a C os f r Pre Post) : ReturnsInLeavingWide a C os f r Pre Post := fun enter => by
  obtain ⟨h1, h2, h3, h4, h5⟩ := h enter
  refine ⟨h1, h2, h3, h4, fun w tape i hf => ?_⟩
  obtain ⟨n, v, w', k1, k2, k3, k4, ⟨j, last, e1, e2, q, ho, he⟩, al⟩ := h5 w tape i hf
  exact ⟨n, v, w', k1, k2, k3, k4, ⟨j, last, e1, e2, ho, onlyLeaving_of_quiet q, he⟩, al⟩

theorem tied_goes (Lk : Looks) {p : Pinned} {s : OpenSpec} {c : OpenClaim} (kinds : List LaidKind) (tests : Bool) (har : Bool × String) (lk : Bool)
    (hc : c.holds p s) (hw : c.wfByText s = true) (htie : c.laidByTextAt Lk p kinds tests)
    (hst : c.start = .entering) (hnb : c.noBlocks = false ∧ c.again = false) (hm : p.checked.prog.mainIs = some (har.1, har.2.toList)) (hn : (!har.1 && har.2.isEmpty && !lk) = false)
    (hl : ∀ f fn, p.checked.prog.funcNamed c.func = some f → p.checked.prog.funcs[f]? = some fn → lk = p.checked.prog.looks [] ∧ ∀ (j : Nat) t, fn.params[j]? = some t → p.checked.prog.wantsStandIn t = false)
    (hg : true = c.goesBy p.checked.prog) :
    Claim7.holds p (.plain s) { stood := { row := c, standIns := [], harness := har, looks := lk }, kinds := [], alts := [], goes := true, laidByText := true, laidKinds := kinds, laidTests := tests, laidLooks := Lk } := by
  have h6 : ∀ r : OpenClaim, Claim7.isSixth { stood := { row := r, standIns := [], harness := har, looks := lk }, kinds := [] } = false := fun r => by simpa [Claim7.isSixth] using hn
  refine ⟨Claim7.tied_new_at Lk kinds tests (Claim7.new_of_sixth hc har lk hst hnb hm (h6 c) hl) hw, (fun D hD => by cases hD), htie, (fun h => by cases h), hg⟩
end Go.Proofs.YtajnfkmkombajacGreatDoor
namespace Go.Proofs.YtajnfkmkombajacGreatDoor
open Go.RowKit Go.ChangeShapes Go.WideShapes Go.Deep

/-- an act on a chain -/
structure ActC where
  kind : ByteArray
  o : Int
  t : Int
  b : Int
  n : Int
  round : Int
  e : EV
def ActC.enc (a : ActC) : List Value := [.string a.kind, .int .i64 a.o, .int .i64 a.t, .int .i64 a.b, .int .i64 a.n, .int .i64 a.round, .int .i64 a.e.b, .int .i64 a.e.c, .int .i64 a.e.n]
def ActC.wf (a : ActC) : Prop := a.kind.size ≤ maxLen ∧ (Lit.int .i64 a.o).wf = true ∧ (Lit.int .i64 a.t).wf = true ∧ (Lit.int .i64 a.b).wf = true ∧ (Lit.int .i64 a.n).wf = true ∧ (Lit.int .i64 a.round).wf = true ∧ a.e.wf

set_option maxRecDepth 8000 in
theorem cacts_of {H : Type} {enc : TypeId × Value → H} {W : World} {base : Nat} {spare : Nat → Bool} {held : Bool} {ao : Option Addr} {len cap : Nat} {d : DataW H} {p : List MemPlace}
    (h : DataW.Trod enc Tryz.prog W base spare held 42 (.slice ao len cap) d p) : ∃ l, RdR ActC.enc 9 W ao len cap l ∧ ∀ x ∈ l, x.wf := by
  obtain ⟨fuel, hf⟩ := h
  have hC : Tryz.prog.cellsOf 48 = 9 := by kernel_rfl
  have hE : Tryz.prog.cellsOf 46 = 3 := by kernel_rfl
  have hI : Tryz.prog.cellsOf 3 = 1 := by kernel_rfl
  have hS : Tryz.prog.cellsOf 9 = 1 := by kernel_rfl
  rcases open_slice Tryz.underlying42 hf with ⟨hcs, _⟩ | ⟨a, l, c, m, n, D, Pl, hcs, _, hl, hm, hmm, _, hall⟩
  · simp [Value.cells] at hcs
    obtain ⟨rfl, rfl, rfl⟩ := hcs
    exact ⟨[], RdR.nil _ _ _, fun x hx => by cases hx⟩
  · simp [Value.cells] at hcs
    obtain ⟨rfl, rfl, rfl⟩ := hcs
    refine RdR.of_cells (Q := ActC.wf) (by decide) hl hm fun i hi => ?_
    obtain ⟨cs, hc, ht⟩ := hall i (by rw [hmm]; split <;> omega)
    rw [hC] at hc
    obtain ⟨ys, n1, _, _, hlen, hyl, hfs⟩ := DataW.trod_struct Tryz.underlying48 ht
    obtain ⟨_, hcl, hat⟩ := World.cells?_some hc
    rw [hC] at hlen
    have hy : ∀ i, i < ys.length → ∃ y, ys[i]? = some y := fun i hi => ⟨_, List.getElem?_eq_getElem hi⟩
    have hyn : ys.length = 7 := hyl
    obtain ⟨y0, e0⟩ := hy 0 (by omega)
    obtain ⟨y1, e1⟩ := hy 1 (by omega)
    obtain ⟨y2, e2⟩ := hy 2 (by omega)
    obtain ⟨y3, e3⟩ := hy 3 (by omega)
    obtain ⟨y4, e4⟩ := hy 4 (by omega)
    obtain ⟨y5, e5⟩ := hy 5 (by omega)
    obtain ⟨y6, e6⟩ := hy 6 (by omega)
    have t0 : DataW.trod enc Tryz.prog W base spare held n1 9 ((cs.drop 0).take (Tryz.prog.cellsOf 9)) = some y0 := (hfs 0 _ rfl).trans e0
    have t1 : DataW.trod enc Tryz.prog W base spare held n1 3 ((cs.drop 1).take (Tryz.prog.cellsOf 3)) = some y1 := (hfs 1 _ rfl).trans e1
    have t2 : DataW.trod enc Tryz.prog W base spare held n1 3 ((cs.drop 2).take (Tryz.prog.cellsOf 3)) = some y2 := (hfs 2 _ rfl).trans e2
    have t3 : DataW.trod enc Tryz.prog W base spare held n1 3 ((cs.drop 3).take (Tryz.prog.cellsOf 3)) = some y3 := (hfs 3 _ rfl).trans e3
    have t4 : DataW.trod enc Tryz.prog W base spare held n1 3 ((cs.drop 4).take (Tryz.prog.cellsOf 3)) = some y4 := (hfs 4 _ rfl).trans e4
    have t5 : DataW.trod enc Tryz.prog W base spare held n1 3 ((cs.drop 5).take (Tryz.prog.cellsOf 3)) = some y5 := (hfs 5 _ rfl).trans e5
    have t6 : DataW.trod enc Tryz.prog W base spare held n1 46 ((cs.drop 6).take (Tryz.prog.cellsOf 46)) = some y6 := (hfs 6 _ rfl).trans e6
    match cs, hlen with
    | [v0, v1, v2, v3, v4, v5, v6, v7, v8], _ =>
      simp only [hI, hE, hS, List.drop_zero, List.drop_succ_cons, List.take_succ_cons, List.take_zero] at t0 t1 t2 t3 t4 t5 t6
      obtain ⟨x0, h0, _, w0⟩ := DataW.trod_string Tryz.underlying9 t0
      obtain ⟨x1, h1, _, w1⟩ := DataW.trod_int Tryz.underlying3 t1
      obtain ⟨x2, h2, _, w2⟩ := DataW.trod_int Tryz.underlying3 t2
      obtain ⟨x3, h3, _, w3⟩ := DataW.trod_int Tryz.underlying3 t3
      obtain ⟨x4, h4, _, w4⟩ := DataW.trod_int Tryz.underlying3 t4
      obtain ⟨x5, h5, _, w5⟩ := DataW.trod_int Tryz.underlying3 t5
      obtain ⟨zs, n2, _, _, _, hzl, hgs⟩ := DataW.trod_struct Tryz.underlying46 t6
      have hz : ∀ i, i < zs.length → ∃ y, zs[i]? = some y := fun i hi => ⟨_, List.getElem?_eq_getElem hi⟩
      have hzn : zs.length = 3 := hzl
      obtain ⟨z0, d0⟩ := hz 0 (by omega)
      obtain ⟨z1, d1⟩ := hz 1 (by omega)
      obtain ⟨z2, d2⟩ := hz 2 (by omega)
      have s0 : DataW.trod enc Tryz.prog W base spare held n2 3 (([v6, v7, v8].drop 0).take (Tryz.prog.cellsOf 3)) = some z0 := (hgs 0 _ rfl).trans d0
      have s1 : DataW.trod enc Tryz.prog W base spare held n2 3 (([v6, v7, v8].drop 1).take (Tryz.prog.cellsOf 3)) = some z1 := (hgs 1 _ rfl).trans d1
      have s2 : DataW.trod enc Tryz.prog W base spare held n2 3 (([v6, v7, v8].drop 2).take (Tryz.prog.cellsOf 3)) = some z2 := (hgs 2 _ rfl).trans d2
      simp only [hI, List.drop_zero, List.drop_succ_cons, List.take_succ_cons, List.take_zero] at s0 s1 s2
      obtain ⟨x6, h6, _, w6⟩ := DataW.trod_int Tryz.underlying3 s0
      obtain ⟨x7, h7, _, w7⟩ := DataW.trod_int Tryz.underlying3 s1
      obtain ⟨x8, h8, _, w8⟩ := DataW.trod_int Tryz.underlying3 s2
      obtain rfl : v0 = .string x0 := by simpa using h0
      obtain rfl : v1 = .int .i64 x1 := by simpa using h1
      obtain rfl : v2 = .int .i64 x2 := by simpa using h2
      obtain rfl : v3 = .int .i64 x3 := by simpa using h3
      obtain rfl : v4 = .int .i64 x4 := by simpa using h4
      obtain rfl : v5 = .int .i64 x5 := by simpa using h5
      obtain rfl : v6 = .int .i64 x6 := by simpa using h6
      obtain rfl : v7 = .int .i64 x7 := by simpa using h7
      obtain rfl : v8 = .int .i64 x8 := by simpa using h8
      refine ⟨⟨x0, x1, x2, x3, x4, x5, ⟨x6, x7, x8⟩⟩, fun j hj => ?_, by simp [ActC.enc], w0, w1, w2, w3, w4, w5, ⟨w6, w7, w8⟩⟩
      rw [← Go.Deep.add_add, hat j hj]
      rfl
end Go.Proofs.YtajnfkmkombajacGreatDoor
