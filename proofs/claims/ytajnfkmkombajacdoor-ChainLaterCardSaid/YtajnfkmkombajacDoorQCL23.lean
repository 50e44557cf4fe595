/-
  Contracts of plain.Code: an error's number and place.
  From a row's cell on listed sentinels (all ten, and errors.errorType) to what the walks ask.
  A chain in memory that is new; a block by its turn; the closed fact of the chain's laws.
  The walk of ChainLater.
-/
import Derived.Test.YtajnfkmkombajacDoorQCL22
import Derived.Test.YtajnfkmkombajacDoorQCL17
import Derived.Deep.RegionWith
import Derived.Test.YtajnfkmkombajacDoorQCL01
import Derived.LaidSub
import Derived.Deep.LoopGhost
set_option linter.unusedVariables false
set_option linter.unusedSimpArgs false
namespace Go.Proofs.YtajnfkmkombajacDoor
open Go.RowKit

/-- all ten sentinels: their variables hold them, they are different ones, each in a block that may be written; and errors.errorType -/
structure Sents (A : Nat → Addr) (w : World) : Prop where
  errs : Errs A [1, 2, 3, 4, 5, 6, 7, 8, 9, 10] w
  typ : ErrType w
  blk : ∀ c, 1 ≤ c → c ≤ 10 → ∃ cs t, w.heap[(A c).block]? = some (.cells cs t (0, 0))
  ne : ∀ c d, 1 ≤ c → c ≤ 10 → 1 ≤ d → d ≤ 10 → c ≠ d → A c ≠ A d
theorem Sents.below {A : Nat → Addr} {w w' : World} (h : Sents A w) (hb : Below w.heap.size w w') : Sents A w' :=
  ⟨h.errs.below hb, h.typ.below hb, fun c h1 h2 => by obtain ⟨cs, t, hc⟩ := h.blk c h1 h2; exact ⟨cs, t, below_heap hb hc (lt_of_block hc)⟩, h.ne⟩
theorem Sents.cell {A : Nat → Addr} {w : World} (h : Sents A w) (c : Nat) (h1 : 1 ≤ c) (h2 : c ≤ 10) : w.cell? ⟨gE c, 0, none⟩ = some (.iface 181 (.pointer (some (A c)))) := by
  have := h.errs.cell c (by simp; omega)
  rw [ev_some _ (by omega)] at this; exact this

def evP (A : Nat → Addr) (c : Nat) : Value := .iface 181 (.pointer (some (A c)))
def tenVs (A : Nat → Addr) : List Value := [evP A 1, evP A 2, evP A 3, evP A 4, evP A 5, evP A 6, evP A 7, evP A 8, evP A 9, evP A 10]
theorem tenVs_get (A : Nat → Addr) (k : Nat) (hk : k < 10) : (tenVs A)[k]? = some (.iface 181 (.pointer (some (A (k + 1))))) := by
  match k, hk with
  | 0, _ => rfl
  | 1, _ => rfl
  | 2, _ => rfl
  | 3, _ => rfl
  | 4, _ => rfl
  | 5, _ => rfl
  | 6, _ => rfl
  | 7, _ => rfl
  | 8, _ => rfl
  | 9, _ => rfl

/-- what Code answers -/
def CodePost (c : Nat) (at_ : Int) (w : World) (e : Ending) (w' : World) : Prop := e = .returned (.tuple #[.int .i64 c, .int .i64 at_]) ∧ Below w.heap.size w w'

theorem code_nil (w : World) : Calls Tryd.prog 30 #[.nilIface] w (CodePost 0 (-1) w) := by
  go_enter Tryd.func30, Tryd.ntmps30
  go_wp2
  go_ret2
  exact ⟨rfl, Below.refl _ _⟩

set_option maxHeartbeats 1000000 in
set_option maxRecDepth 8000 in
theorem code_bare (A : Nat → Addr) (c : Nat) (h1 : 1 ≤ c) (h10 : c ≤ 10) (w : World) (hS : Sents A w) :
    Calls Tryd.prog 30 #[.iface 181 (.pointer (some (A c)))] w (CodePost c (-1) w) := by
  have HS := Lib.hid hS; clear hS
  go_enter Tryd.func30, Tryd.ntmps30
  go_wp2_with fail
  have b0 : Below w.heap.size w (w.alloc (.cells #[.pointer none] 77)) := (Below.refl _ _).alloc (Nat.le_refl _) _
  refine (as_miss _ _ _ (HS.out.below b0).typ).mono ?_
  rintro e w1 ⟨rfl, b1⟩
  have b01 := btrans b0 b1
  have S1 := HS.out.below b01
  have g1 : w1.cell? ⟨6, 0, none⟩ = some (.iface 181 (.pointer (some (A 1)))) := S1.cell 1 (by decide) (by decide)
  have g2 : w1.cell? ⟨0, 0, none⟩ = some (.iface 181 (.pointer (some (A 2)))) := S1.cell 2 (by decide) (by decide)
  have g3 : w1.cell? ⟨7, 0, none⟩ = some (.iface 181 (.pointer (some (A 3)))) := S1.cell 3 (by decide) (by decide)
  have g4 : w1.cell? ⟨2, 0, none⟩ = some (.iface 181 (.pointer (some (A 4)))) := S1.cell 4 (by decide) (by decide)
  have g5 : w1.cell? ⟨1, 0, none⟩ = some (.iface 181 (.pointer (some (A 5)))) := S1.cell 5 (by decide) (by decide)
  have g6 : w1.cell? ⟨5, 0, none⟩ = some (.iface 181 (.pointer (some (A 6)))) := S1.cell 6 (by decide) (by decide)
  have g7 : w1.cell? ⟨4, 0, none⟩ = some (.iface 181 (.pointer (some (A 7)))) := S1.cell 7 (by decide) (by decide)
  have g8 : w1.cell? ⟨3, 0, none⟩ = some (.iface 181 (.pointer (some (A 8)))) := S1.cell 8 (by decide) (by decide)
  have g9 : w1.cell? ⟨8, 0, none⟩ = some (.iface 181 (.pointer (some (A 9)))) := S1.cell 9 (by decide) (by decide)
  have g10 : w1.cell? ⟨9, 0, none⟩ = some (.iface 181 (.pointer (some (A 10)))) := S1.cell 10 (by decide) (by decide)
  have HS1 := Lib.hid S1; have HB := Lib.hid b01
  clear S1 b0 b1 b01
  go_wp2_with fail
  clear g1 g2 g3 g4 g5 g6 g7 g8 g9 g10
  have R := RowAt.new w1 26 (tenVs A)
  have b2 : Below w.heap.size w (w1.alloc (.cells (tenVs A).toArray 26)) := HB.out.alloc HB.out.size _
  have HR := Lib.hid R
  have HB2 := Lib.hid b2
  clear R b2 HB HS1
  go_loopw [28, 3] (fun i s3 wr => ∃ k : Nat, k < c ∧ i = .int .i64 k ∧ s3 = .int .i64 (-1) ∧ RowAt w1.heap.size 26 (tenVs A) wr ∧ Below w.heap.size w wr) (fun i _ _ => 10 - (intOf i).toNat)
  case atStart => exact ⟨0, by omega, rfl, rfl, HR.out, HB2.out⟩
  case round =>
    clear HR HB2
    obtain ⟨k, hk, rfl, rfl, R, hb⟩ := hrel
    have hck := (R.cell k).trans (tenVs_get A k (by omega))
    have S2 := HS.out.below hb
    have HB := Lib.hid hb; have HR := Lib.hid R; have HS2 := Lib.hid S2
    clear R hb S2
    obtain ⟨ca, ta, hca⟩ := HS2.out.blk c h1 h10
    obtain ⟨cb, tb, hcb⟩ := HS2.out.blk (k + 1) (by omega) (by omega)
    have HCA := Lib.hid hca; have HCB := Lib.hid hcb
    clear hca hcb
    by_cases hkc : k + 1 = c
    · subst hkc
      go_wp2_with fail
      refine (is_same _ _).mono ?_
      rintro e w' ⟨rfl, rfl⟩
      go_wp2_with fail
      go_ret2
      exact ⟨rfl, HB.out⟩
    · have hne := HS2.out.ne c (k + 1) h1 h10 (by omega) (by omega) (Ne.symm hkc)
      have HNE := Lib.hid hne; clear hne
      go_wp2_with fail
      refine (is_other _ _ _ _ _ _ _ HNE.out HCA.out HCB.out).mono ?_
      rintro e w' ⟨rfl, rfl⟩
      go_wp2_with fail
      go_roundw
      case rel => exact ⟨k + 1, by omega, by go_num, rfl, HR.out, HB.out⟩
      case measure => simp [intOf]; omega

set_option maxHeartbeats 1000000 in
set_option maxRecDepth 8000 in
/-- a fault: its error's number, and its place -/
theorem code_fault (A : Nat → Addr) (c : Nat) (h1 : 1 ≤ c) (h10 : c ≤ 10) (at_ : Int) (g : Nat) (w : World) (hS : Sents A w) (c0 : w.cell? ⟨g, 0, none⟩ = some (.int .i64 at_)) (c1 : w.cell? ⟨g, 1, none⟩ = some (.iface 181 (.pointer (some (A c))))) :
    Calls Tryd.prog 30 #[.iface 77 (.pointer (some ⟨g, 0, none⟩))] w (CodePost c at_ w) := by
  have HS := Lib.hid hS; clear hS
  have HC0 := Lib.hid c0; have HC1 := Lib.hid c1
  have hgl := World.block_lt_of_cell? _ _ c0
  clear c0 c1
  go_enter Tryd.func30, Tryd.ntmps30
  go_wp2_with fail
  have b0 : Below w.heap.size w (w.alloc (.cells #[.pointer none] 77)) := (Below.refl _ _).alloc (Nat.le_refl _) _
  refine (as_hit _ _ (.pointer none) _ (HS.out.below b0).typ (by simp) (by simp)).mono ?_
  rintro e w1 ⟨rfl, k1, ht⟩
  have b01 : Below w.heap.size w w1 := Keep.after b0 k1 (fun i hi => by rw [hi]; exact Nat.le_refl _)
  have S1 := HS.out.below b01
  have g1 : w1.cell? ⟨6, 0, none⟩ = some (.iface 181 (.pointer (some (A 1)))) := S1.cell 1 (by decide) (by decide)
  have g2 : w1.cell? ⟨0, 0, none⟩ = some (.iface 181 (.pointer (some (A 2)))) := S1.cell 2 (by decide) (by decide)
  have g3 : w1.cell? ⟨7, 0, none⟩ = some (.iface 181 (.pointer (some (A 3)))) := S1.cell 3 (by decide) (by decide)
  have g4 : w1.cell? ⟨2, 0, none⟩ = some (.iface 181 (.pointer (some (A 4)))) := S1.cell 4 (by decide) (by decide)
  have g5 : w1.cell? ⟨1, 0, none⟩ = some (.iface 181 (.pointer (some (A 5)))) := S1.cell 5 (by decide) (by decide)
  have g6 : w1.cell? ⟨5, 0, none⟩ = some (.iface 181 (.pointer (some (A 6)))) := S1.cell 6 (by decide) (by decide)
  have g7 : w1.cell? ⟨4, 0, none⟩ = some (.iface 181 (.pointer (some (A 7)))) := S1.cell 7 (by decide) (by decide)
  have g8 : w1.cell? ⟨3, 0, none⟩ = some (.iface 181 (.pointer (some (A 8)))) := S1.cell 8 (by decide) (by decide)
  have g9 : w1.cell? ⟨8, 0, none⟩ = some (.iface 181 (.pointer (some (A 9)))) := S1.cell 9 (by decide) (by decide)
  have g10 : w1.cell? ⟨9, 0, none⟩ = some (.iface 181 (.pointer (some (A 10)))) := S1.cell 10 (by decide) (by decide)
  have q0 := HC0.out
  rw [← b01.cell (p := ⟨g, 0, none⟩) hgl] at q0
  have HB := Lib.hid b01
  clear S1 b0 b01 k1
  go_wp2_with fail
  clear g1 g2 g3 g4 g5 g6 g7 g8 g9 g10 q0 ht
  have R := RowAt.new w1 26 (tenVs A)
  have b2 : Below w.heap.size w (w1.alloc (.cells (tenVs A).toArray 26)) := HB.out.alloc HB.out.size _
  have HR := Lib.hid R
  have HB2 := Lib.hid b2
  clear R b2 HB
  go_loopw [28, 3] (fun i s3 wr => ∃ k : Nat, k < c ∧ i = .int .i64 k ∧ s3 = .int .i64 at_ ∧ RowAt w1.heap.size 26 (tenVs A) wr ∧ Below w.heap.size w wr) (fun i _ _ => 10 - (intOf i).toNat)
  case atStart => exact ⟨0, by omega, rfl, rfl, HR.out, HB2.out⟩
  case round =>
    clear HR HB2
    obtain ⟨k, hk, rfl, rfl, R, hb⟩ := hrel
    have hck := (R.cell k).trans (tenVs_get A k (by omega))
    have S2 := HS.out.below hb
    have q1 := HC1.out
    rw [← hb.cell (p := ⟨g, 1, none⟩) hgl] at q1
    have HQ := Lib.hid q1; clear q1
    have HB := Lib.hid hb; have HR := Lib.hid R; have HS2 := Lib.hid S2
    clear R hb S2
    obtain ⟨ca, ta, hca⟩ := HS2.out.blk c h1 h10
    obtain ⟨cb, tb, hcb⟩ := HS2.out.blk (k + 1) (by omega) (by omega)
    have HCA := Lib.hid hca; have HCB := Lib.hid hcb
    clear hca hcb
    by_cases hkc : k + 1 = c
    · subst hkc
      go_wp2_with fail
      refine (is_fault_same g 0 _ _ HQ.out).mono ?_
      rintro e w' ⟨rfl, rfl⟩
      go_wp2_with fail
      go_ret2
      exact ⟨rfl, HB.out⟩
    · have hne := HS2.out.ne c (k + 1) h1 h10 (by omega) (by omega) (Ne.symm hkc)
      have HNE := Lib.hid hne; clear hne
      go_wp2_with fail
      refine (is_fault_other g 0 _ _ _ _ _ _ _ HQ.out HNE.out HCA.out HCB.out).mono ?_
      rintro e w' ⟨rfl, rfl⟩
      go_wp2_with fail
      go_roundw
      case rel => exact ⟨k + 1, by omega, by go_num, rfl, HR.out, HB.out⟩
      case measure => simp [intOf]; omega
end Go.Proofs.YtajnfkmkombajacDoor
namespace Go.Proofs.YtajnfkmkombajacDoor
open Go.RowKit Go.ChangeShapes

set_option maxRecDepth 100000 in
/-- the listed errors' own places, blocks, and that they differ -/
theorem sents_vars {W : World} (PS : List MemPlace) (hrows : ∀ b off, MemPlace.cell b off ∈ PS → (∃ c t, W.heap[b]? = some (.cells c t (0, 0))) ∧ ∀ u v, W.cell? ⟨b, off, none⟩ = some (.iface u v) → Value.okWide Tryd.prog W .any 0 u v) :
    ∀ (cs : List Nat) (l : List (String × DataW Unit)) (ps : List MemPlace), LaidAs cs l → DataW.LaidVars Tryd.prog W l ps → ps.Nodup → (∀ x ∈ ps, x ∈ PS) →
    ∃ A : Nat → Addr, (∀ c ∈ cs, W.cell? ⟨gE c, 0, none⟩ = some (ev A c)) ∧ (∀ c ∈ cs, MemPlace.cell (A c).block (A c).off ∈ ps) ∧ ∀ c ∈ cs, ∀ d ∈ cs, c ≠ d → A c ≠ A d
  | [], [], _, _, _, _, _ => ⟨fun _ => ⟨0, 0, none⟩, (fun c hc => by cases hc), (fun c hc => by cases hc), fun c hc => by cases hc⟩
  | c :: cs, (n, d) :: r, ps, ⟨⟨h0, h1, h2, h3, text, h4⟩, hr⟩, hv, hnd, hsub => by
    obtain ⟨g, t, xs, fuel, p, q, e1, e2, e3, e4, hq, rfl⟩ := hv
    simp only at h4 h2
    subst h4
    obtain rfl := Option.some.inj (h2.symm.trans e1)
    obtain rfl := Option.some.inj (h3.symm.trans e2)
    obtain ⟨l0⟩ := xs
    have ok0 : ∀ u v, l0 = [.iface u v] → Value.okWide Tryd.prog W .any 0 u v := fun u v e => by
      subst e
      exact (hrows (gE c) 0 (hsub _ (by simp [MemPlace.row]))).2 u v (by simpa using World.var?_cell e1 e3 0)
    obtain ⟨a0, s0, rfl, hc0, hs0, hz0, rfl⟩ := errorString_of_trod Tryd.underlying26 Tryd.rowErr Tryd.underlying181 Tryd.underlying201 rfl rfl Tryd.underlying9 Tryd.cellsErr Tryd.cellsStr e4 ok0
    have hnq : q.Nodup := (List.nodup_append.1 hnd).2.1
    obtain ⟨A, hA1, hA2, hA3⟩ := sents_vars PS hrows cs r q hr hq hnq (fun x hx => hsub x (by simp [hx]))
    refine ⟨fun k => if k = c then a0 else A k, fun k hk => ?_, fun k hk => ?_, fun k hk j hj hkj => ?_⟩
    · by_cases hkc : k = c
      · subst hkc
        have := World.var?_cell e1 e3 0
        rw [ev_some _ h0]
        simpa using this
      · have hk' : k ∈ cs := by simpa [hkc] using hk
        have := hA1 k hk'
        rw [this]; simp [ev, hkc]
    · by_cases hkc : k = c
      · subst hkc; simp only [if_true]; exact List.mem_append_left _ (by simp [MemPlace.row])
      · simp only [if_neg hkc]; exact List.mem_append_right _ (hA2 k (by simpa [hkc] using hk))
    · have far : ∀ m ∈ cs, A m ≠ a0 := by
        intro m hm e
        have h1 := hA2 m hm
        rw [e] at h1
        exact (List.nodup_append.1 hnd).2.2 _ (by simp [MemPlace.row]) _ h1 rfl
      by_cases hkc : k = c
      · have hjc : j ≠ c := fun e => hkj (by rw [hkc, e])
        simp only [if_pos hkc, if_neg hjc]
        exact fun e => far j (by simpa [hjc] using hj) e.symm
      · by_cases hjc : j = c
        · simp only [if_neg hkc, if_pos hjc]
          exact far k (by simpa [hkc] using hk)
        · simp only [if_neg hkc, if_neg hjc]
          exact hA3 k (by simpa [hkc] using hk) j (by simpa [hjc] using hj) hkj
  | [], _ :: _, _, h, _, _, _ => h.elim
  | _ :: _, [], _, h, _, _, _ => h.elim

def errorName : List UInt8 := [101, 114, 114, 111, 114]
theorem only_error : ((List.range Tryd.prog.types.size).all fun ty => !Tryd.prog.rowNamed ty errorName || ty == 26) = true := by kernel_rfl
theorem rtype_at : (Tryd.prog.cutTypes.find? (·.1 == "internal/reflectlite.rtype")).map (·.2) = some 137 := by kernel_rfl
theorem globals_size : Tryd.prog.globals.size = 13 := by kernel_rfl

theorem sents_of_laid {W : World} {L : List (String × DataW Unit)} (hL : laidMetH Tryd.prog L W) (h1 : LaidAs [1, 2, 3, 4, 5, 6, 7, 8, 9, 10] (L.filter fun x => x.2.handleName?.isNone))
    (h2 : ("errors.errorType", DataW.iface "internal/reflectlite.rtype" (.agg [.ptr (.lit (.string errorName))])) ∈ L) (h3 : Tryd.prog.globalNamed "errors.errorType" = some 10) : ∃ A, Sents A W := by
  obtain ⟨hm, hh⟩ := laidMetH_iff.1 hL
  obtain ⟨ps, hv, hnd, hrows⟩ := hm
  obtain ⟨A, a1, a2, a3⟩ := sents_vars ps hrows _ _ ps h1 hv hnd (fun x hx => hx)
  refine ⟨A, ⟨⟨a1⟩, ?_, fun c c1 c2 => ?_, fun c d c1 c2 d1 d2 hcd => a3 c (by simp; omega) d (by simp; omega) hcd⟩⟩
  · have := hh _ (List.mem_filter.2 ⟨h2, by rfl⟩)
    have hf : (DataW.iface (H := Unit) "internal/reflectlite.rtype" (.agg [.ptr (.lit (.string errorName))])).funcsIn? = none := by kernel_rfl
    rw [show (("errors.errorType", DataW.iface (H := Unit) "internal/reflectlite.rtype" (.agg [.ptr (.lit (.string errorName))])) : String × DataW Unit).2.funcsIn? = none from hf] at this
    obtain ⟨name, u, ty, e1, e2, e3, e4, e5⟩ := this
    have hn : name = errorName := by
      have h0 : (DataW.iface (H := Unit) "internal/reflectlite.rtype" (.agg [.ptr (.lit (.string errorName))])).handleName? = some errorName := by kernel_rfl
      exact Option.some.inj (e1.symm.trans h0)
    subst hn
    rw [rtype_at] at e2
    obtain rfl := Option.some.inj e2
    have hty : ty = 26 := by
      have := List.all_eq_true.1 only_error ty (List.mem_range.2 e3)
      rw [e4] at this
      simpa using this
    subst hty
    have := World.var?_cell h3 e5 0
    unfold ErrType
    simpa [typeHandle, globals_size] using this
  · obtain ⟨cs, t, hc⟩ := (hrows _ _ (a2 c (by simp; omega))).1
    exact ⟨cs, t, hc⟩
end Go.Proofs.YtajnfkmkombajacDoor
namespace Go.Proofs.YtajnfkmkombajacDoor
open Go.RowKit Go.Maps

/-- a chain in memory that is new since W -/
structure CN (W : World) (cb : Nat) (K : ChL) (n sd : Nat) (x : CS) (w : World) : Prop where
  below : Below W.heap.size W w
  ch : ChainL cb K n sd x w
  new : ∀ b, K.foot cb b → W.heap.size ≤ b
section
variable {W w w' : World} {cb cb2 n m n2 sd sd2 : Nat} {K K' K2 : ChL} {x y z : CS} {G : Nat → Prop}
theorem CN.go (h : CN W cb K n sd x w) : ChGo w (K.foot cb) cb K n sd x w := ChGo.start h.ch (fun _ hb => hb) h.ch.footlt
theorem CN.of (h : CN W cb K n sd x w) (k : ChGo w (K.foot cb) cb K' m sd y w') : CN W cb K' m sd y w' :=
  ⟨Keep.after h.below k.keep h.new, k.ch, fun b hb => (k.foot b hb).elim (h.new b) (fun ⟨a, _⟩ => Nat.le_trans h.below.size a)⟩
theorem CN.next (h : CN W cb K n sd x w) (b : Below w.heap.size w w') : CN W cb K n sd x w' := ⟨btrans h.below b, h.ch.below b, h.new⟩
theorem CN.drewN (h : CN W cb K n sd x w) (j : Nat) : CN W cb K n sd x (w.drewN j) := h.next ((Below.refl _ _).drewN j)
theorem CN.other (h : CN W cb K n sd x w) (k : Keep G w w') (hG : ∀ b, G b → W.heap.size ≤ b) (hd : ∀ b, K.foot cb b → ¬ G b) : CN W cb K n sd x w' := ⟨Keep.after h.below k hG, h.ch.keep k hd, h.new⟩
theorem CN.fe {A : Nat → Addr} {S : List Nat} (h : CN W cb K n sd x w) (hE : Errs A S W) : ∀ c ∈ S, ¬ K.foot cb (gE c) := fun c hc hf => by have := h.new _ hf; have := hE.lt hc; omega
theorem CN.errs {A : Nat → Addr} {S : List Nat} (h : CN W cb K n sd x w) (hE : Errs A S W) : Errs A S w := hE.below h.below
theorem CN.since {W0 : World} (h : CN W cb K n sd x w) (b : Below W0.heap.size W0 W) : CN W0 cb K n sd x w := ⟨b.trans (h.below.mono b.size), h.ch, fun c hc => Nat.le_trans b.size (h.new c hc)⟩
theorem ChGo.cn (h : ChGo W noF cb K n sd x w) : CN W cb K n sd x w := ⟨⟨h.keep.os, h.keep.tape, h.keep.output, h.keep.size, fun k hk => h.keep.block k hk id⟩, h.ch, fun b hb => (h.foot b hb).elim (fun e => e.elim) (·.1)⟩
end

noncomputable def CS.btV (x : CS) (sd : Nat) (r : Int) : Int := if x.turnC r = 0 then x.turnV sd r else 0
noncomputable def CS.btN (x : CS) (sd : Nat) (r : Int) : Int := if x.turnC r = 0 then (x.reward (x.turnV sd r)).1 else 0
noncomputable def CS.btS (x : CS) (sd : Nat) (r : Int) : CS := if x.turnC r = 0 then (x.reward (x.turnV sd r)).2.stepOp else x

section
variable (A : Nat → Addr) (S : List Nat) (W : World) (F : Nat → Prop) (cb : Nat) (K : ChL) (n sd : Nat) (x : CS) (w : World)
set_option maxRecDepth 8000 in
theorem law_bakeTurn (r : Int) (h : ChGo W F cb K n sd x w) (hx : x.Inv) (hs : sd < 18446744073709551616) (hE : Errs A S W) (hFE : ∀ c ∈ S, ¬ F (gE c)) (h2 : 2 ∈ S) (h3 : 3 ∈ S) (h4 : 4 ∈ S) (h6 : 6 ∈ S) (h9 : 9 ∈ S) (hW : x.s.W.length ≤ 8000) (hn : n + 1 ≤ 1000000) (hk : x.k.L.length ≤ 1000000) :
    Calls Tryd.prog 20 #[.pointer (some ⟨cb, 0, none⟩), .int .i64 r] w fun e w' => e = .returned (.tuple #[.int .i64 (x.btV sd r), .int .i64 (x.btN sd r), ev A (x.turnC r)]) ∧ ∃ K', ChGo W F cb K' (n + 1) sd (x.btS sd r) w' := by
  have H0 := Lib.hid h
  have HT := Lib.hid (chain_Turn A S W F cb K n sd x r w h hx hs hE hFE h2 h3 h4)
  have HB := Lib.hid (fun wx (hg : ChGo W F cb K n sd x wx) => chain_Bake A S W F cb K n sd x wx (x.turnV sd r) r hg hx hs hE hFE h2 h3 h4 h6 h9 hW hn hk)
  clear h hx hE hFE
  by_cases hc : x.turnC r = 0
  · have E1 := Lib.hid (show x.btV sd r = x.turnV sd r from if_pos hc)
    have E2 := Lib.hid (show x.btN sd r = (x.reward (x.turnV sd r)).1 from if_pos hc)
    have E3 := Lib.hid (show x.btS sd r = (x.reward (x.turnV sd r)).2.stepOp from if_pos hc)
    have E4 := Lib.hid (show x.bakeOp sd (x.turnV sd r) r = ((x.reward (x.turnV sd r)).1, 0, (x.reward (x.turnV sd r)).2.stepOp) by unfold CS.bakeOp; rw [if_neg (by simp [hc]), if_neg (by simp)])
    rw [E4.out] at HB
    simp only [ev_nil] at HB
    have HC := Lib.hid (show ev A (x.turnC r) = .nilIface by rw [hc]; rfl)
    rw [HC.out] at HT
    clear hc E4
    go_enter Tryd.func20, Tryd.ntmps20
    go_wp2_with fail
    refine HT.out.mono ?_
    rintro e w1 ⟨rfl, b1⟩
    have H1 := Lib.hid (H0.out.below b1); clear b1
    go_wp2_with fail
    refine (HB.out _ H1.out).mono ?_
    rintro e w2 ⟨rfl, K2, g2⟩
    have H2 := Lib.hid g2; clear g2
    go_wp2_with fail
    go_ret3
    exact ⟨by rw [E1.out, E2.out, HC.out]; rfl, by rw [E3.out]; exact ⟨K2, H2.out⟩⟩
  · have E1 := Lib.hid (show x.btV sd r = 0 from if_neg hc)
    have E2 := Lib.hid (show x.btN sd r = 0 from if_neg hc)
    have E3 := Lib.hid (show x.btS sd r = x from if_neg hc)
    have HC := Lib.hid (ev_some A hc)
    rw [HC.out] at HT
    clear hc
    go_enter Tryd.func20, Tryd.ntmps20
    go_wp2_with fail
    refine HT.out.mono ?_
    rintro e w1 ⟨rfl, b1⟩
    have H1 := Lib.hid (H0.out.below b1); clear b1
    go_wp2_with fail
    go_ret3
    exact ⟨by rw [E1.out, E2.out, HC.out]; rfl, by rw [E3.out]; exact ⟨K, H1.out.mono (Nat.le_succ n)⟩⟩
end

theorem turnV_bd {x : CS} (h : x.Inv) (sd : Nat) (r : Int) : 0 ≤ x.turnV sd r ∧ x.turnV sd r < 3 := by
  unfold CS.turnV
  split
  · have hl : x.pics.getD 0 [] ∈ x.pics := getD_mem _ _ _ (by rw [h.three]; decide)
    obtain ⟨h1, h2, h3⟩ := h.pic _ hl
    obtain ⟨k, e, hk, _⟩ := bakerV_weight (zs := x.pics.getD 0 []) (by rw [pic_fine ⟨h2, h1, h3⟩]) sd x.cycle x.level r
    rw [h1] at hk
    rw [e]; omega
  · omega
theorem begun_facts : CS.new.turnC 0 = 0 ∧ ∀ sd, 0 ≤ CS.new.turnV sd 0 ∧ CS.new.turnV sd 0 < 3 := by
  refine ⟨?_, fun sd => turnV_bd CS.new_inv sd 0⟩
  unfold CS.turnC
  rw [if_pos (by show roundOk 0 0 0; decide)]

set_option maxRecDepth 8000 in
set_option maxHeartbeats 1000000 in
theorem law_begun (A : Nat → Addr) (S : List Nat) (w : World) (hS : Errs A S w) (mS : ∀ c ∈ [2, 3, 4, 5, 6, 7, 8, 9], c ∈ S) :
    Calls Tryd.prog 16 #[] w fun e w' => e = .returned (.bool true) ∧ Below w.heap.size w w' := by
  have HS := Lib.hid hS; clear hS
  have m2 := mS 2 (by decide)
  have m3 := mS 3 (by decide)
  have m4 := mS 4 (by decide)
  have m5 := mS 5 (by decide)
  have m6 := mS 6 (by decide)
  have m7 := mS 7 (by decide)
  have m8 := mS 8 (by decide)
  have m9 := mS 9 (by decide)
  obtain ⟨f1, f2⟩ := begun_facts
  obtain ⟨t0, t3⟩ := f2 7
  obtain ⟨r1, r2, -, r4⟩ := new_reward t0 t3
  have V1 := Lib.hid (show CS.new.btV 7 0 = CS.new.turnV 7 0 from if_pos f1)
  have V2 := Lib.hid (show CS.new.btN 7 0 = 540 by rw [← r1]; exact if_pos f1)
  have V3 := Lib.hid (show CS.new.btS 7 0 = (CS.new.reward (CS.new.turnV 7 0)).2.stepOp from if_pos f1)
  have V4 := Lib.hid (show ev A (CS.new.turnC 0) = .nilIface by rw [f1]; rfl)
  have V5 := Lib.hid (show (CS.new.btS 7 0).level = 1 by rw [V3.out]; exact r2)
  have V6 := Lib.hid (show (CS.new.btS 7 0).p.supply = 60540 by rw [V3.out]; exact r4)
  clear f1 f2 r1 r2 r4 V3
  go_enter Tryd.func16, Tryd.ntmps16
  go_wp2_with fail
  refine (chain_New A S 7 _ HS.out m2 m4 m5 m6 m7 m8).mono ?_
  rintro e w1 ⟨cb, K, rfl, g1⟩
  have H1 := Lib.hid g1.cn; clear g1
  have c0 := H1.out.go.c0
  go_wp2_with fail
  refine (purse_Supply K.pb CS.new.p _ H1.out.ch.purse).mono ?_
  rintro e w2 ⟨rfl, rfl⟩
  rw [show CS.new.p.supply = 60000 from rfl]
  go_wp2_with fail
  refine (purse_Has K.pb CS.new.p 0 _ H1.out.ch.purse).mono ?_
  rintro e w2 ⟨rfl, rfl⟩
  rw [show (if ownB 0 then CS.new.p.at 0 else 0) = 9000 from rfl]
  go_wp2_with fail
  refine (chain_Cycle H1.out.go).mono ?_
  rintro e w2 ⟨rfl, rfl⟩
  rw [show CS.new.cycle = 0 from rfl]
  go_wp2_with fail
  refine (law_bakeTurn A S _ _ cb K 3 7 CS.new _ 0 H1.out.go CS.new_inv (by decide) (H1.out.errs HS.out) (H1.out.fe HS.out) m2 m3 m4 m6 m9 (by decide) (by decide) (by decide)).mono ?_
  rintro e w2 ⟨rfl, K2, g2⟩
  have H2 := Lib.hid (H1.out.of g2); clear g2
  rw [V1.out, V2.out, V4.out]
  generalize CS.new.turnV 7 0 = tv at *
  have d0 := H2.out.go.c0
  go_wp2_with fail
  refine (chain_Level H2.out.go).mono ?_
  rintro e w3 ⟨rfl, rfl⟩
  rw [V5.out]
  go_wp2_with fail
  refine (purse_Supply K2.pb _ _ H2.out.ch.purse).mono ?_
  rintro e w3 ⟨rfl, rfl⟩
  rw [V6.out]
  go_wp2_with fail
  go_ret
  exact ⟨rfl, H2.out.below⟩
end Go.Proofs.YtajnfkmkombajacDoor
namespace Go.Proofs.YtajnfkmkombajacDoor
open Go.RowKit Go.Maps

theorem CS.judges_len : ∀ (l : List (Int × EV)) (c : CS), (l.foldl CS.judge c).s.W.length = c.s.W.length
  | [], _ => rfl
  | x :: l, c => by rw [List.foldl_cons, CS.judges_len l]; exact SS.slash_len _ _ _ _
theorem CS.step_len (c : CS) : c.stepOp.s.W.length = c.s.W.length ∧ c.stepOp.k.L = c.k.L := by
  unfold CS.stepOp
  split
  · exact ⟨CS.judges_len _ _, rfl⟩
  · exact ⟨rfl, rfl⟩
theorem CS.bake_len (c : CS) (b : Int) : (c.reward b).2.stepOp.s.W.length = c.s.W.length ∧ (c.reward b).2.stepOp.k.L = c.k.L := by
  obtain ⟨h1, h2⟩ := CS.step_len (c.reward b).2
  obtain ⟨k1, k2, k3⟩ := CS.reward_keeps c b
  exact ⟨by rw [h1, CS.reward_len], by rw [h2, k2]⟩
/-- a chain under way: i blocks, nothing waits, nobody was accused -/
structure EarlyQ (i : Nat) (c : CS) : Prop where
  e : Early i c
  w : c.s.W.length = 0
  k : c.k.L.length = 0
theorem EarlyQ.new : EarlyQ 0 CS.new := ⟨Early.new, rfl, rfl⟩
theorem EarlyQ.stake {i : Nat} {c : CS} (h : EarlyQ i c) (o b n : Int) : EarlyQ i (c.stakeOp o b n).2 := by
  refine ⟨h.e.stake o b n, ?_, ?_⟩
  · have : (c.stakeOp o b n).2.s.W = c.s.W := by
      unfold CS.stakeOp; split
      · rfl
      · split <;> exact SS.join_len _ _ _ _
    rw [this]; exact h.w
  · have : (c.stakeOp o b n).2.k = c.k := by
      unfold CS.stakeOp; split
      · rfl
      · split <;> rfl
    rw [this]; exact h.k
theorem EarlyQ.bake {i : Nat} {c : CS} (h : EarlyQ i c) (sd : Nat) (hi : i ≤ 12) : c.turnC 0 = 0 ∧ EarlyQ (i + 1) (c.btS sd 0) := by
  have hc : c.turnC 0 = 0 := by
    unfold CS.turnC
    rw [if_pos]
    have h1 := h.e.level; have h2 := h.e.cycle
    unfold roundOk
    omega
  refine ⟨hc, ?_⟩
  have e : c.btS sd 0 = (c.reward (c.turnV sd 0)).2.stepOp := if_pos hc
  rw [e]
  obtain ⟨l1, l2⟩ := CS.bake_len c (c.turnV sd 0)
  exact ⟨h.e.bake _, by rw [l1]; exact h.w, by rw [l2]; exact h.k⟩
theorem EarlyQ.turn {i : Nat} {c d : CS} (h : EarlyQ i c) (k : EarlyQ i d) (hi : i < 12) (sd : Nat) : c.turnV sd 0 = d.turnV sd 0 := by
  have p1 := h.e.pics 0 (by omega); have p2 := k.e.pics 0 (by omega)
  have e1 : c.pics.getD 0 [] = pic0 := by rw [List.getD_eq_getElem?_getD, p1]; rfl
  have e2 : d.pics.getD 0 [] = pic0 := by rw [List.getD_eq_getElem?_getD, p2]; rfl
  unfold CS.turnV
  rw [h.e.level, h.e.cycle, k.e.level, k.e.cycle, e1, e2]

/-- two chains that are new, apart -/
structure Two (W : World) (ca : Nat) (Ka : ChL) (na sd : Nat) (a : CS) (cb : Nat) (Kb : ChL) (nb : Nat) (b : CS) (w : World) : Prop where
  a : CN W ca Ka na sd a w
  b : CN W cb Kb nb sd b w
  dis : ∀ c, Ka.foot ca c → ¬ Kb.foot cb c
section
variable {W w w' : World} {ca cb na nb ma sd : Nat} {Ka Kb K' : ChL} {a b y : CS}
theorem Two.next (h : Two W ca Ka na sd a cb Kb nb b w) (k : Below w.heap.size w w') : Two W ca Ka na sd a cb Kb nb b w' := ⟨h.a.next k, h.b.next k, h.dis⟩
theorem Two.ofA (h : Two W ca Ka na sd a cb Kb nb b w) (k : ChGo w (Ka.foot ca) ca K' ma sd y w') : Two W ca K' ma sd y cb Kb nb b w' :=
  ⟨h.a.of k, h.b.other k.keep h.a.new (fun c hc hf => h.dis c hf hc), fun c hc hb => by
    rcases k.foot c hc with e | e
    · exact h.dis c e hb
    · have := h.b.ch.footlt c hb; omega⟩
theorem Two.ofB (h : Two W ca Ka na sd a cb Kb nb b w) (k : ChGo w (Kb.foot cb) cb K' ma sd y w') : Two W ca Ka na sd a cb K' ma y w' :=
  ⟨h.a.other k.keep h.b.new h.dis, h.b.of k, fun c hc hb => by
    rcases k.foot c hb with e | e
    · exact h.dis c hc e
    · have := h.a.ch.footlt c hc; omega⟩
end

set_option maxRecDepth 8000 in
set_option maxHeartbeats 1000000 in
theorem later_good (A : Nat → Addr) (sd : Nat) (hs : sd < 18446744073709551616) (o b n k : Int) (w : World) (S : List Nat) (hS : Errs A S w) (mS : ∀ c ∈ [2, 3, 4, 5, 6, 7, 8, 9], c ∈ S) (o0 : 0 ≤ o) (o1 : o < 6) (b0 : 0 ≤ b) (b1 : b < 3) (n0 : 1 ≤ n) (n1 : n ≤ 5000) (k0 : 0 ≤ k) (k1 : k ≤ 12) :
    Calls Tryd.prog 4 #[.int .u64 sd, .int .i64 o, .int .i64 b, .int .i64 n, .int .i64 k] w fun e w' => e = .returned (.bool true) ∧ Below w.heap.size w w' := by
  have HS := Lib.hid hS; clear hS
  have m2 := mS 2 (by decide)
  have m3 := mS 3 (by decide)
  have m4 := mS 4 (by decide)
  have m5 := mS 5 (by decide)
  have m6 := mS 6 (by decide)
  have m7 := mS 7 (by decide)
  have m8 := mS 8 (by decide)
  have m9 := mS 9 (by decide)
  have LS := Lib.hid (later_stake o0 o1 b0 b1 n0 n1)
  obtain ⟨kk, rfl⟩ := Int.eq_ofNat_of_zero_le k0
  have x1 : decide (o < 0) = false := by simp; omega
  have x2 : decide (6 ≤ o) = false := by simp; omega
  have x3 : decide (b < 0) = false := by simp; omega
  have x4 : decide (3 ≤ b) = false := by simp; omega
  have x5 : decide (n < 1) = false := by simp; omega
  have x6 : decide (5000 < n) = false := by simp; omega
  have kk12 : kk ≤ 12 := by omega
  clear o0 o1 b0 b1 n0 n1 k0
  go_enter Tryd.func4, Tryd.ntmps4
  go_wp2_with fail
  refine (law_begun A S _ HS.out mS).mono ?_
  rintro e w0 ⟨rfl, hb0⟩
  have HB0 := Lib.hid hb0; clear hb0
  have HS0 := Lib.hid (HS.out.below HB0.out)
  go_wp2_with fail
  refine (chain_New A S sd _ HS0.out m2 m4 m5 m6 m7 m8).mono ?_
  rintro e w1 ⟨ca, Ka, rfl, g1⟩
  have H1 := Lib.hid g1.cn; clear g1
  have HS1 := Lib.hid (HS0.out.below H1.out.below)
  go_wp2_with fail
  refine (chain_New A S sd _ HS1.out m2 m4 m5 m6 m7 m8).mono ?_
  rintro e w2 ⟨cb, Kb, rfl, g2⟩
  have HT := Lib.hid (show Two w0 ca Ka 3 sd CS.new cb Kb 3 CS.new w2 from ⟨H1.out.next g2.cn.below, g2.cn.since H1.out.below, fun c hc hb => by have := H1.out.ch.footlt c hc; have := g2.cn.new c hb; omega⟩)
  clear g2 H1 HS1
  go_wp2_with fail
  refine (chain_Stake A S _ _ cb Kb 3 sd CS.new _ o b n HT.out.b.go (HT.out.b.errs HS0.out) (HT.out.b.fe HS0.out) m2 m4 m6 m7 m8 (by unfold maxLen; omega)).mono ?_
  rintro e w3 ⟨rfl, K3, g3⟩
  rw [LS.out]
  simp only [ev_nil]
  have HT3 := Lib.hid (HT.out.ofB g3); clear g3 HT LS
  have HQ := Lib.hid (EarlyQ.new.stake o b n)
  generalize (CS.new.stakeOp o b n).2 = y0 at *
  go_wp2_with fail
  go_loopg [14] kk (fun g i wr => ∃ (t : Nat) (Ka Kb : ChL) (x y : CS), g + t = kk ∧ i = .int .i64 t ∧ EarlyQ t x ∧ EarlyQ t y ∧ Two w0 ca Ka (3 + t) sd x cb Kb (4 + t) y wr)
  case atStart => exact ⟨0, Ka, K3, CS.new, y0, rfl, rfl, EarlyQ.new, HQ.out, HT3.out⟩
  case round =>
    clear HT3 HQ
    obtain ⟨t, Ka, Kb, x, y, hg, rfl, hx, hy, hT⟩ := hrel
    have HG := Lib.hid hg; have HX := Lib.hid hx; have HY := Lib.hid hy; have H := Lib.hid hT; clear hg hx hy hT
    by_cases ht : t < kk
    · obtain ⟨cx, bx⟩ := HX.out.bake sd (by omega)
      obtain ⟨cy, byy⟩ := HY.out.bake sd (by omega)
      have BX := Lib.hid bx; have BY := Lib.hid byy; clear bx byy
      have CX := Lib.hid (show ev A (x.turnC 0) = .nilIface by rw [cx]; rfl)
      have CY := Lib.hid (show ev A (y.turnC 0) = .nilIface by rw [cy]; rfl)
      have TV := Lib.hid (HX.out.turn HY.out (by omega) sd)
      clear cx cy
      go_wp2_with fail
      refine (chain_Turn A S _ _ ca Ka (3 + t) sd x 0 _ H.out.a.go HX.out.e.inv hs (H.out.a.errs HS0.out) (H.out.a.fe HS0.out) m2 m3 m4).mono ?_
      rintro e w4 ⟨rfl, b4⟩
      rw [CX.out]
      have H4 := Lib.hid (H.out.next b4); clear b4
      go_wp2_with fail
      refine (chain_Turn A S _ _ cb Kb (4 + t) sd y 0 _ H4.out.b.go HY.out.e.inv hs (H4.out.b.errs HS0.out) (H4.out.b.fe HS0.out) m2 m3 m4).mono ?_
      rintro e w5 ⟨rfl, b5⟩
      rw [CY.out, ← TV.out]
      have H5 := Lib.hid (H4.out.next b5); clear b5
      generalize x.turnV sd 0 = tv at *
      have tt : (tv != tv) = false := bne_self_eq_false _
      go_wp2_with fail
      refine (law_bakeTurn A S _ _ ca Ka (3 + t) sd x _ 0 H5.out.a.go HX.out.e.inv hs (H5.out.a.errs HS0.out) (H5.out.a.fe HS0.out) m2 m3 m4 m6 m9 (by rw [HX.out.w]; decide) (by omega) (by rw [HX.out.k]; decide)).mono ?_
      rintro e w6 ⟨rfl, K6, g6⟩
      rw [CX.out]
      have H6 := Lib.hid (H5.out.ofA g6); clear g6
      go_wp2_with fail
      refine (law_bakeTurn A S _ _ cb Kb (4 + t) sd y _ 0 H6.out.b.go HY.out.e.inv hs (H6.out.b.errs HS0.out) (H6.out.b.fe HS0.out) m2 m3 m4 m6 m9 (by rw [HY.out.w]; decide) (by omega) (by rw [HY.out.k]; decide)).mono ?_
      rintro e w7 ⟨rfl, K7, g7⟩
      rw [CY.out]
      have H7 := Lib.hid (H6.out.ofB g7); clear g7
      go_wp2_with fail
      have hg := HG.out
      go_roundg (kk - (t + 1))
      case measure => omega
      case rel => exact ⟨t + 1, K6, K7, _, _, by omega, by go_num, BX.out, BY.out, H7.out⟩
    · go_wp2_with fail
      go_ret
      exact ⟨rfl, btrans HB0.out H.out.a.below⟩

set_option maxRecDepth 8000 in
theorem later_all (A : Nat → Addr) (sd : Nat) (hs : sd < 18446744073709551616) (o b n k : Int) (w : World) (S : List Nat) (hS : Errs A S w) (mS : ∀ c ∈ [2, 3, 4, 5, 6, 7, 8, 9], c ∈ S) :
    Calls Tryd.prog 4 #[.int .u64 sd, .int .i64 o, .int .i64 b, .int .i64 n, .int .i64 k] w fun e w' => e = .returned (.bool true) ∧ Below w.heap.size w w' := by
  by_cases hg : 0 ≤ o ∧ o < 6 ∧ 0 ≤ b ∧ b < 3
  · obtain ⟨o0, o1, b0, b1⟩ := hg
    by_cases hc : 1 ≤ n ∧ n ≤ 5000 ∧ 0 ≤ k ∧ k ≤ 12
    · obtain ⟨n0, n1, k0, k1⟩ := hc
      exact later_good A sd hs o b n k w S hS mS o0 o1 b0 b1 n0 n1 k0 k1
    · have hcases : n < 1 ∨ (1 ≤ n ∧ 5000 < n) ∨ (1 ≤ n ∧ n ≤ 5000 ∧ k < 0) ∨ (1 ≤ n ∧ n ≤ 5000 ∧ 0 ≤ k ∧ 12 < k) := by omega
      have HS := Lib.hid hS; clear hS hc
      have x1 : decide (o < 0) = false := by simp; omega
      have x2 : decide (6 ≤ o) = false := by simp; omega
      have x3 : decide (b < 0) = false := by simp; omega
      have x4 : decide (3 ≤ b) = false := by simp; omega
      clear o0 o1 b0 b1
      rcases hcases with d1 | ⟨d1, d2⟩ | ⟨d1, d2, d3⟩ | ⟨d1, d2, d3, d4⟩
      all_goals
        go_enter Tryd.func4, Tryd.ntmps4
        go_wp2_with fail
        refine (law_begun A S _ HS.out mS).mono ?_
        rintro e w0 ⟨rfl, hb0⟩
        go_wp2_with fail
        go_ret
        exact ⟨rfl, hb0⟩
  · have hcases : o < 0 ∨ (0 ≤ o ∧ 6 ≤ o) ∨ (0 ≤ o ∧ o < 6 ∧ b < 0) ∨ (0 ≤ o ∧ o < 6 ∧ 0 ≤ b ∧ 3 ≤ b) := by omega
    have HS := Lib.hid hS; clear hS hg
    rcases hcases with d1 | ⟨d1, d2⟩ | ⟨d1, d2, d3⟩ | ⟨d1, d2, d3, d4⟩
    all_goals
      go_enter Tryd.func4, Tryd.ntmps4
      go_wp2_with fail
      refine (law_begun A S _ HS.out mS).mono ?_
      rintro e w0 ⟨rfl, hb0⟩
      go_wp2_with fail
      go_ret
      exact ⟨rfl, hb0⟩
end Go.Proofs.YtajnfkmkombajacDoor
