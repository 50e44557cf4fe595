/-
  The walk of asChain: a chain has what the document's has.
  Contract of faulted (package bakehouselaw3).
  The walk of an act on a chain and the document's chain.
-/
import Derived.Test.YtajnfkmkombajacGreatDoorQPA37
import Derived.Deep.RegionWith
import Derived.Deep.RegionHeld3
import Derived.Deep.QuietTactic
import Derived.BigQuiet
set_option linter.unusedVariables false
set_option linter.unusedSimpArgs false
set_option linter.unusedVariables false
namespace Go.Proofs.YtajnfkmkombajacGreatDoor
open Go.RowKit Go.Maps

theorem RChainL.value {cb sd : Nat} {K : RChL} {x : CS} {Z : List (List Int)} {w : World} (h : RChainL cb K sd x Z w) (o k : Int) : Calls Tryz.prog 24 #[.pointer (some ⟨K.sb, 0, none⟩), .int .i64 o, .int .i64 k] w fun e w' => e = .returned (.int .i64 (x.s.value o k)) ∧ Dr w w' := by
  obtain ⟨L, wv, hL, -, -⟩ := h.st
  exact refs_Value K.sb L wv x.s w o k hL
theorem RChainL.waits {cb sd : Nat} {K : RChL} {x : CS} {Z : List (List Int)} {w : World} (h : RChainL cb K sd x Z w) (o k c : Int) : Calls Tryz.prog 26 #[.pointer (some ⟨K.sb, 0, none⟩), .int .i64 o, .int .i64 k, .int .i64 c] w fun e w' => e = .returned (.int .i64 (x.s.waits o k c)) ∧ Dr w w' := by
  obtain ⟨L, wv, hL, -, -⟩ := h.st
  exact refs_Waits K.sb L wv x.s w o k c hL
theorem RChainL.total {cb sd : Nat} {K : RChL} {x : CS} {Z : List (List Int)} {w : World} (h : RChainL cb K sd x Z w) (hW : x.s.W.length ≤ 8000) : Calls Tryz.prog 18 #[.pointer (some ⟨K.sb, 0, none⟩)] w fun e w' => e = .returned (.int .i64 x.s.total) ∧ w = w' := by
  obtain ⟨L, wv, hL, -, -⟩ := h.st
  exact refs_Total K.sb L wv x.s w hL hW

set_option maxRecDepth 8000 in
set_option maxHeartbeats 2000000 in
theorem law3_as (A : Nat → Addr) (W : World) (cb : Nat) (K : ChL) (n : Nat) (rb : Nat) (R : RChL) (sd : Nat) (x : CS) (Z : List (List Int)) (w : World) (h : CTwo W cb K n rb R sd x x Z w) (hS : Sents A W) (hW : x.s.W.length ≤ 8000) (hcy : (Lit.int .i64 x.cycle).wf = true) :
    Calls Tryz.prog 49 #[.pointer (some ⟨cb, 0, none⟩), .pointer (some ⟨rb, 0, none⟩)] w fun e w' => e = .returned (.bool true) ∧ Below w.heap.size w w' := by
  have m2 : (2 : Nat) ∈ [1, 2, 3, 4, 5, 6, 7, 8, 9, 10] := by decide
  have H := Lib.hid h
  have b0 := h.law.go.c0
  have d0 := h.doc.go.c0; have d1 := h.doc.go.c1; have d4 := h.doc.go.c4; have d5 := h.doc.go.c5; have d6 := h.doc.go.c6
  have p1 := h.doc.ch.purse.c1
  have HK1 := Lib.hid (fun j => chain_Cycle (H.out.drewN j).lgo)
  have HK2 := Lib.hid (fun j => chain_Level (H.out.drewN j).lgo)
  have HK3 := Lib.hid (fun j => chain_Bonus _ _ _ _ _ _ _ _ (H.out.drewN j).lgo)
  have HK4 := Lib.hid (fun j => purse_Supply K.pb x.p _ (H.out.drewN j).law.ch.purse)
  have n1 : (x.cycle != x.cycle) = false := bne_self_eq_false _
  have n2 : (x.level != x.level) = false := bne_self_eq_false _
  have n3 : (x.bonus != x.bonus) = false := bne_self_eq_false _
  have n4 : (x.p.supply != x.p.supply) = false := bne_self_eq_false _
  have HS := Lib.hid hS; have HCY := Lib.hid hcy
  clear h hS hcy
  go_enter Tryz.func49, Tryz.ntmps49
  go_wp2_with fail
  go_quiet ((first
    | (go_at_call 43; exact Calls.quiet_of_same ((HK1.out _).mono fun _ _ ⟨a, b⟩ => ⟨a, b.symm⟩))
    | (go_at_call 41; exact Calls.quiet_of_same ((HK2.out _).mono fun _ _ ⟨a, b⟩ => ⟨a, b.symm⟩))
    | (go_at_call 39; exact Calls.quiet_of_same ((HK3.out _).mono fun _ _ ⟨a, b⟩ => ⟨a, b.symm⟩))
    | (go_at_call 37; exact Calls.quiet_of_same ((HK4.out _).mono fun _ _ ⟨a, b⟩ => ⟨a, b.symm⟩))))
  go_wp2_with fail
  clear n1 n2 n3 n4
  go_loopg [5] 6 (fun g i wr => ∃ k : Nat, g + k = 6 ∧ i = .int .i64 k ∧ Dr w wr)
  case atStart => exact ⟨0, rfl, rfl, ⟨_, rfl⟩⟩
  case round =>
    obtain ⟨k, hg, rfl, hd⟩ := hrel
    have HD := Lib.hid hd
    have h := H.out.dr hd
    have HB0 := Lib.hid hd.below
    clear hd H
    have H := Lib.hid h
    have b0 := h.law.go.c0
    have d0 := h.doc.go.c0; have d1 := h.doc.go.c1
    have p0 := h.doc.ch.purse.c0
    have HPC := Lib.hid (fun k (hk : k < 6) => h.doc.ch.purse.hc hk)
    have HK5 := Lib.hid (fun k j => purse_Has K.pb x.p k _ (H.out.drewN j).law.ch.purse)
    clear h
    by_cases hk : k < 6
    · have hown : ownB (k : Int) = true := ownB_iff.2 (by omega)
      have pc := HPC.out k hk
      have hP := HK5.out k
      simp only [hown, if_true] at hP
      have HP := Lib.hid hP; clear hP
      have hat : x.p.at (k : Int) = x.p.at k := rfl
      have nh : (x.p.at k != x.p.at k) = false := bne_self_eq_false _
      have hwk : (Lit.int .i64 (k : Int)).wf = true := WalkArith.wf_i64 (by omega)
      generalize x.p.at k = pk at *
      go_wp2_with fail
      go_quiet ((go_at_call 44; exact Calls.quiet_of_same ((HP.out _).mono fun _ _ ⟨a, b⟩ => ⟨a, b.symm⟩)))
      go_wp2_with fail
      clear pc nh
      go_loopg [6] 3 (fun g2 i2 wi => ∃ k2 : Nat, g2 + k2 = 3 ∧ i2 = .int .i64 k2 ∧ Dr wr wi)
      case atStart => exact ⟨0, rfl, rfl, ⟨_, rfl⟩⟩
      case round =>
        obtain ⟨k2, hg2, rfl, hd2⟩ := hrel
        have HD2 := Lib.hid hd2
        have h := H.out.dr hd2
        clear hd2 H
        have H := Lib.hid h
        have b0 := h.law.go.c0
        have d1 := h.doc.go.c1; have d4 := h.doc.go.c4
        have HK1 := Lib.hid (fun j => chain_Cycle (H.out.drewN j).lgo)
        have HK6 := Lib.hid (fun j => chain_Stakes (H.out.drewN j).lgo)
        have HV1 := Lib.hid (fun o k j (ho : (Lit.int .i64 o).wf = true) => st_Value A [1, 2, 3, 4, 5, 6, 7, 8, 9, 10] o k (H.out.drewN j).law.ch.st (HS.out.below (H.out.drewN j).below).errs m2 ho)
        have HV2 := Lib.hid (fun o k j => (H.out.drewN j).doc.ch.value o k)
        have HV3 := Lib.hid (fun o k j (ho : (Lit.int .i64 o).wf = true) => st_Waits A [1, 2, 3, 4, 5, 6, 7, 8, 9, 10] o k x.cycle (H.out.drewN j).law.ch.st (HS.out.below (H.out.drewN j).below).errs m2 ho HCY.out)
        have HV4 := Lib.hid (fun o k j => (H.out.drewN j).doc.ch.waits o k x.cycle)
        clear h
        by_cases hk2 : k2 < 3
        · have HA1 := Lib.hid (fun j => HV1.out k k2 j hwk)
          have HA2 := Lib.hid (fun j => HV2.out k k2 j)
          have HA3 := Lib.hid (fun j => HV3.out k k2 j hwk)
          have HA4 := Lib.hid (fun j => HV4.out k k2 j)
          generalize x.s.value k k2 = vv at *
          generalize x.s.waits k k2 x.cycle = vw at *
          have nv : (vv != vv) = false := bne_self_eq_false _
          have nw : (vw != vw) = false := bne_self_eq_false _
          go_wp2_with fail
          go_quiet ((first
            | (go_at_call 35; exact Calls.quiet_of_same ((HK6.out _).mono fun _ _ ⟨a, b⟩ => ⟨a, b.symm⟩))
            | (go_at_call 23; exact Calls.quiet_of ((HA1.out _).mono fun _ _ ⟨a, m, b⟩ => ⟨a, m, b.symm⟩))
            | (go_at_call 24; exact Calls.quiet_of ((HA2.out _).mono fun _ _ ⟨a, m, b⟩ => ⟨a, m, b.symm⟩))
            | (go_at_call 43; exact Calls.quiet_of_same ((HK1.out _).mono fun _ _ ⟨a, b⟩ => ⟨a, b.symm⟩))
            | (go_at_call 25; exact Calls.quiet_of ((HA3.out _).mono fun _ _ ⟨a, m, b⟩ => ⟨a, m, b.symm⟩))
            | (go_at_call 26; exact Calls.quiet_of ((HA4.out _).mono fun _ _ ⟨a, m, b⟩ => ⟨a, m, b.symm⟩))))
          go_wp2_with fail
          go_roundg (3 - (k2 + 1))
          case measure => omega
          case rel => exact ⟨k2 + 1, by omega, by go_num, HD2.out.trans ⟨_, rfl⟩⟩
        · have hk3 : k2 = 3 := by omega
          subst hk3
          go_wp2_with fail
          go_roundg (6 - (k + 1))
          case measure => omega
          case rel => exact ⟨k + 1, by omega, by go_num, HD.out.trans HD2.out⟩
    · have hk6 : k = 6 := by omega
      subst hk6
      have nt : (x.s.total == x.s.total) = true := beq_self_eq_true _
      have HK6 := Lib.hid (fun j => chain_Stakes (H.out.drewN j).lgo)
      have HT1 := Lib.hid (fun wx (hb : Below wr.heap.size wr wx) => st_Total (H.out.next hb).law.ch.st hW)
      have HT2 := Lib.hid (fun wx (hb : Below wr.heap.size wr wx) => (H.out.next hb).doc.ch.total hW)
      have HD1 := Lib.hid (fun wx (hb : Below wr.heap.size wr wx) => (H.out.next hb).doc.go.c1)
      generalize x.s.total = tt at *
      have BD : ∀ i, Below wr.heap.size wr (wr.drewN i) := fun i => (Below.refl _ _).drewN i
      have HBD := Lib.hid BD; clear BD
      go_wp2_with fail
      go_region_held3 (fun wx => wx.cell? ⟨rb, 1, none⟩ = some (.pointer (some ⟨R.sb, 0, none⟩))) (first | exact HD1.out _ H1.out | exact HD1.out _ (HBD.out _))
        (first
          | (go_at_call 35; refine (HK6.out _).mono ?_; rintro y wa ⟨rfl, rfl⟩)
          | (go_at_call 17; refine (HT1.out _ (HBD.out 1)).mono ?_; rintro y wc ⟨rfl, hb⟩; have H1 := Lib.hid (btrans (HBD.out 1) hb))
          | (go_at_call 18; refine (HT2.out _ H1.out).mono ?_; rintro y wd ⟨rfl, rfl⟩))
      all_goals
        go_wp2_with fail
        go_ret
        exact ⟨rfl, btrans HB0.out H1.out⟩
end Go.Proofs.YtajnfkmkombajacGreatDoor
namespace Go.Proofs.YtajnfkmkombajacGreatDoor
open Go.RowKit

/-- an error, by its number and place, as it is told in this world -/
theorem law3_faulted (A : Nat → Addr) (v : Value) (f : Nat × Int) (w0 w : World) (hS : Sents A w) (hv : ErrIs A w0 w v f) (hf : f.1 ≤ 10) (h0 : f.2 ≠ -1 → f.1 ≠ 0) :
    Calls Tryz.prog 59 #[v, .agg #[.int .i64 f.1, .int .i64 f.2]] w fun e w' => e = .returned (.bool true) ∧ Below w.heap.size w w' := by
  obtain ⟨c, at_⟩ := f
  simp only at hf h0
  have HS := Lib.hid hS; clear hS
  have hcc : ((c : Int) == (c : Int)) = true := beq_self_eq_true _
  have haa : (at_ == at_) = true := beq_self_eq_true _
  have bx : ∀ a : Int, Below w.heap.size w (w.alloc (.cells #[.int .i64 c, .int .i64 a] 86)) := fun a => (Below.refl _ _).alloc (Nat.le_refl _) _
  have BX := Lib.hid bx; clear bx
  rcases hv with ⟨ha, hv⟩ | ⟨ha, g, _, hv, c0, c1⟩
  · simp only at ha hv
    subst ha
    by_cases hc : c = 0
    · subst hc
      rw [hv, ev_nil]
      clear hv haa
      go_enter Tryz.func59, Tryz.ntmps59
      go_wp2_with fail
      refine (code_nil _).mono ?_
      rintro e w' ⟨rfl, hb⟩
      have hb2 := btrans (BX.out _) hb
      have q0 := hb.cell (p := ⟨w.heap.size, 0, none⟩) (by simp)
      have q1 := hb.cell (p := ⟨w.heap.size, 1, none⟩) (by simp)
      simp at q0 q1
      go_wp2
      go_ret
      exact ⟨rfl, hb2⟩
    · rw [hv, ev_some A hc]
      have hc0 : ((c : Int) == 0) = false := by simp; exact hc
      clear hv haa
      go_enter Tryz.func59, Tryz.ntmps59
      go_wp2_with fail
      refine (code_bare A c (by omega) hf _ (HS.out.below (BX.out _))).mono ?_
      rintro e w' ⟨rfl, hb⟩
      have hb2 := btrans (BX.out _) hb
      have q0 := hb.cell (p := ⟨w.heap.size, 0, none⟩) (by simp)
      have q1 := hb.cell (p := ⟨w.heap.size, 1, none⟩) (by simp)
      simp at q0 q1
      go_wp2
      go_ret
      exact ⟨rfl, hb2⟩
  · simp only at ha hv c0 c1
    have hc : c ≠ 0 := h0 (by omega)
    rw [ev_some A hc] at c1
    rw [hv]
    have hc0 : ((c : Int) == 0) = false := by simp; exact hc
    have hgl := World.block_lt_of_cell? _ _ c0
    have C0 := Lib.hid c0; have C1 := Lib.hid c1
    clear hv c0 c1
    go_enter Tryz.func59, Tryz.ntmps59
    go_wp2_with fail
    refine (code_fault A c (by omega) hf at_ g _ (HS.out.below (BX.out _)) (by rw [(BX.out _).cell (p := ⟨g, 0, none⟩) hgl]; exact C0.out) (by rw [(BX.out _).cell (p := ⟨g, 1, none⟩) hgl]; exact C1.out)).mono ?_
    rintro e w' ⟨rfl, hb⟩
    have hb2 := btrans (BX.out _) hb
    have q0 := hb.cell (p := ⟨w.heap.size, 0, none⟩) (by simp)
    have q1 := hb.cell (p := ⟨w.heap.size, 1, none⟩) (by simp)
    simp at q0 q1
    go_wp2
    go_ret
    exact ⟨rfl, hb2⟩
end Go.Proofs.YtajnfkmkombajacGreatDoor
namespace Go.Proofs.YtajnfkmkombajacGreatDoor
open Go.RowKit Go.Maps

/-- an act's own box g, beside both chains -/
structure CBoxT (W : World) (cb : Nat) (K : ChL) (n : Nat) (rb : Nat) (R : RChL) (sd : Nat) (x y : CS) (Z : List (List Int)) (g : Nat) (a : ActC) (w : World) : Prop where
  two : CTwo W cb K n rb R sd x y Z w
  gn : ¬ K.foot cb g ∧ ¬ R.foot rb g
  glt : g < w.heap.size
  c0 : w.cell? ⟨g, 0, none⟩ = some (.string a.kind)
  c1 : w.cell? ⟨g, 1, none⟩ = some (.int .i64 a.o)
  c2 : w.cell? ⟨g, 2, none⟩ = some (.int .i64 a.t)
  c3 : w.cell? ⟨g, 3, none⟩ = some (.int .i64 a.b)
  c4 : w.cell? ⟨g, 4, none⟩ = some (.int .i64 a.n)
  c5 : w.cell? ⟨g, 5, none⟩ = some (.int .i64 a.round)
  c6 : w.cell? ⟨g, 6, none⟩ = some (.int .i64 a.e.b)
  c7 : w.cell? ⟨g, 7, none⟩ = some (.int .i64 a.e.c)
  c8 : w.cell? ⟨g, 8, none⟩ = some (.int .i64 a.e.n)
section
variable {W w w' : World} {cb n m rb sd g : Nat} {K K' : ChL} {R R' : RChL} {x y z x' y' : CS} {Z Z' : List (List Int)} {a : ActC}
theorem CBoxT.of {G : Nat → Prop} (h : CBoxT W cb K n rb R sd x y Z g a w) (k : Keep G w w') (hG : ¬ G g) (ht : CTwo W cb K' m rb R' sd x' y' Z' w') (h1 : ¬ K'.foot cb g) (h2 : ¬ R'.foot rb g) : CBoxT W cb K' m rb R' sd x' y' Z' g a w' :=
  ⟨ht, ⟨h1, h2⟩, Nat.lt_of_lt_of_le h.glt k.size, by rw [k.cell (p := ⟨g, 0, none⟩) h.glt hG]; exact h.c0, by rw [k.cell (p := ⟨g, 1, none⟩) h.glt hG]; exact h.c1, by rw [k.cell (p := ⟨g, 2, none⟩) h.glt hG]; exact h.c2, by rw [k.cell (p := ⟨g, 3, none⟩) h.glt hG]; exact h.c3, by rw [k.cell (p := ⟨g, 4, none⟩) h.glt hG]; exact h.c4, by rw [k.cell (p := ⟨g, 5, none⟩) h.glt hG]; exact h.c5, by rw [k.cell (p := ⟨g, 6, none⟩) h.glt hG]; exact h.c6, by rw [k.cell (p := ⟨g, 7, none⟩) h.glt hG]; exact h.c7, by rw [k.cell (p := ⟨g, 8, none⟩) h.glt hG]; exact h.c8⟩
theorem CBoxT.next (h : CBoxT W cb K n rb R sd x y Z g a w) (k : Below w.heap.size w w') : CBoxT W cb K n rb R sd x y Z g a w' := h.of (G := fun _ => False) (Keep.of_below k) id (h.two.next k) h.gn.1 h.gn.2
theorem CBoxT.drewN (h : CBoxT W cb K n rb R sd x y Z g a w) (j : Nat) : CBoxT W cb K n rb R sd x y Z g a (w.drewN j) := h.next ((Below.refl _ _).drewN j)
theorem CBoxT.lawed (h : CBoxT W cb K n rb R sd x y Z g a w) (k : ChGo w (K.foot cb) cb K' m sd z w') : CBoxT W cb K' m rb R sd z y Z g a w' :=
  h.of k.keep h.gn.1 (h.two.lawed k) (fun hb => by
    rcases k.foot g hb with e | e
    · exact h.gn.1 e
    · have := h.glt; omega) h.gn.2
theorem CBoxT.doced (h : CBoxT W cb K n rb R sd x y Z g a w) (k : RChGo w (R.foot rb) rb R' sd z Z' w') (p : PicsOf z Z') : CBoxT W cb K n rb R' sd x z Z' g a w' :=
  h.of k.keep h.gn.2 (h.two.doced k p) h.gn.1 (fun hb => by
    rcases k.foot g hb with e | e
    · exact h.gn.2 e
    · have := h.glt; omega)
theorem CTwo.box (h : CTwo W cb K n rb R sd x y Z w) (a : ActC) (t : TypeId) : CBoxT W cb K n rb R sd x y Z w.heap.size a (w.alloc (.cells #[.string a.kind, .int .i64 a.o, .int .i64 a.t, .int .i64 a.b, .int .i64 a.n, .int .i64 a.round, .int .i64 a.e.b, .int .i64 a.e.c, .int .i64 a.e.n] t)) := by
  have hn := heap_alloc_new w (.cells #[.string a.kind, .int .i64 a.o, .int .i64 a.t, .int .i64 a.b, .int .i64 a.n, .int .i64 a.round, .int .i64 a.e.b, .int .i64 a.e.c, .int .i64 a.e.n] t)
  refine ⟨h.next ((Below.refl _ _).alloc (Nat.le_refl _) _), ⟨fun hb => absurd (h.law.ch.footlt _ hb) (Nat.lt_irrefl _), fun hb => absurd (h.doc.ch.footlt _ hb) (Nat.lt_irrefl _)⟩, by simp, ?_, ?_, ?_, ?_, ?_, ?_, ?_, ?_, ?_⟩
  all_goals (unfold World.cell?; rw [hn]; simp)
end
theorem CS.stake10 {x : CS} {o b n : Int} : (x.stakeOp o b n).1 ≤ 10 := by
  unfold CS.stakeOp
  split
  · exact PS.out10
  · split
    · exact SS.join10
    · simp
theorem CS.free10 {x : CS} {o : Int} : (x.freeOp o).2.1 ≤ 10 := by
  unfold CS.freeOp
  split
  · exact SS.free10
  · exact PS.in10
theorem CS.turn10 {x : CS} {r : Int} : x.turnC r ≤ 10 := by unfold CS.turnC; split <;> omega
theorem CS.bake10 {x : CS} {sd : Nat} {b r : Int} : (x.bakeOp sd b r).2.1 ≤ 10 := by
  unfold CS.bakeOp
  split
  · exact CS.turn10
  · split <;> simp
theorem errs_two {A : Nat → Addr} {W w : World} {cb n rb sd : Nat} {K : ChL} {R : RChL} {x y : CS} {Z : List (List Int)} (h : CTwo W cb K n rb R sd x y Z w) (hS : Sents A W) : Errs A [1, 2, 3, 4, 5, 6, 7, 8, 9, 10] w ∧ ∀ c ∈ [1, 2, 3, 4, 5, 6, 7, 8, 9, 10], ¬ K.foot cb (gE c) :=
  ⟨(hS.below h.below).errs, h.law.fe hS.errs⟩
/-- what of the document's chain an act may have left -/
def Acted (W : World) (cb rb sd m : Nat) (z : CS) (w' : World) : Prop := ∃ K' n' R' Z', n' ≤ m ∧ CTwo W cb K' n' rb R' sd z z Z' w'

set_option maxRecDepth 8000 in
set_option maxHeartbeats 4000000 in
theorem law3_act (A : Nat → Addr) (W : World) (cb : Nat) (K : ChL) (n : Nat) (rb : Nat) (R : RChL) (sd : Nat) (x : CS) (Z : List (List Int)) (w : World) (a : ActC) (h : CTwo W cb K n rb R sd x x Z w) (hx : x.Inv) (hs : sd < 18446744073709551616) (hS : Sents A W) (hW : x.s.W.length ≤ 8000) (hn : n ≤ 900000) (hk : x.k.L.length ≤ 900000) (ha : a.wf) (hcy : x.cycle ≤ 1000000) :
    Calls Tryz.prog 48 #[.pointer (some ⟨cb, 0, none⟩), .pointer (some ⟨rb, 0, none⟩), .agg a.enc.toArray] w fun e w' => e = .returned (.bool true) ∧ Acted W cb rb sd (n + 2 + x.s.W.length) (x.doOp sd a).2 w' := by
  have m2 : (2 : Nat) ∈ [1, 2, 3, 4, 5, 6, 7, 8, 9, 10] := by decide
  have m3 : (3 : Nat) ∈ [1, 2, 3, 4, 5, 6, 7, 8, 9, 10] := by decide
  have m4 : (4 : Nat) ∈ [1, 2, 3, 4, 5, 6, 7, 8, 9, 10] := by decide
  have m5 : (5 : Nat) ∈ [1, 2, 3, 4, 5, 6, 7, 8, 9, 10] := by decide
  have m6 : (6 : Nat) ∈ [1, 2, 3, 4, 5, 6, 7, 8, 9, 10] := by decide
  have m7 : (7 : Nat) ∈ [1, 2, 3, 4, 5, 6, 7, 8, 9, 10] := by decide
  have m8 : (8 : Nat) ∈ [1, 2, 3, 4, 5, 6, 7, 8, 9, 10] := by decide
  have m9 : (9 : Nat) ∈ [1, 2, 3, 4, 5, 6, 7, 8, 9, 10] := by decide
  have m10 : (10 : Nat) ∈ [1, 2, 3, 4, 5, 6, 7, 8, 9, 10] := by decide
  have hcyw : (Lit.int .i64 x.cycle).wf = true := WalkArith.wf_i64 (by have := hx.cy; omega)
  have HD := Lib.hid (CS.doOp_eq x sd a)
  have HS := Lib.hid hS
  have HX := Lib.hid hx
  have hbx := h.box a 48
  have hew := ha.2.2.2.2.2.2
  clear h hx hS ha
  obtain ⟨s, o, t, b, N, r, e⟩ := a
  unfold ActC.enc
  simp only at hbx HD hew ⊢
  obtain ⟨wb, hwb⟩ : ∃ wb, w.alloc (.cells #[.string s, .int .i64 o, .int .i64 t, .int .i64 b, .int .i64 N, .int .i64 r, .int .i64 e.b, .int .i64 e.c, .int .i64 e.n] 48) = wb := ⟨_, rfl⟩
  rw [hwb] at hbx
  have HA := Lib.hid hbx; clear hbx
  have HEE := Lib.hid (errs_two HA.out.two HS.out)
  have HE1 := Lib.hid (errs_two (HA.out.drewN 1).two HS.out)
  have c0 := HA.out.c0
  simp only at c0
  generalize x.doOp sd ⟨s, o, t, b, N, r, e⟩ = res at *
  have hml : n + 1 < maxLen := by unfold maxLen; omega
  have hmw : n + x.s.W.length < maxLen := by unfold maxLen; omega
  have hnm : n < maxLen := by omega
  have HM := Lib.hid (And.intro hml (And.intro hmw hnm)); clear hml hmw hnm
  go_enter Tryz.func48, Tryz.ntmps48
  by_cases m20 : (s.toList == [112, 97, 121]) = true
  · rw [if_pos m20] at HD
    go_wp2_with fail
    go_region_held3 (fun w' => w'.cell? ⟨w.heap.size, 1, none⟩ = some (.int .i64 o) ∧ w'.cell? ⟨w.heap.size, 2, none⟩ = some (.int .i64 t) ∧ w'.cell? ⟨w.heap.size, 4, none⟩ = some (.int .i64 N) ∧ w'.cell? ⟨rb, 0, none⟩ = some (.pointer (some ⟨R.pb, 0, none⟩))) (first | exact ⟨H1.out.c1, H1.out.c2, H1.out.c4, H1.out.two.dgo.c0⟩ | exact ⟨H2.out.c1, H2.out.c2, H2.out.c4, H2.out.two.dgo.c0⟩ | exact ⟨H3.out.c1, H3.out.c2, H3.out.c4, H3.out.two.dgo.c0⟩ | exact ⟨HA.out.c1, HA.out.c2, HA.out.c4, HA.out.two.dgo.c0⟩)
      (first
        | (go_at_call 86; refine (chain_Pay A [1, 2, 3, 4, 5, 6, 7, 8, 9, 10] _ (K.foot cb) cb K n sd x _ o t N (HA.out.drewN 1).two.lgo HE1.out.1 HE1.out.2 m2 m6).mono ?_; rintro y wa ⟨rfl, ka⟩; have H1 := Lib.hid ((HA.out.drewN 1).lawed ka))
        | (go_at_call 108; refine (refp_Move R.pb R.hb x.p o t N _ H1.out.two.doc.ch.purse).mono ?_; rintro y wc ⟨rfl, kb⟩; have H2 := Lib.hid (H1.out.doced (H1.out.two.dgo.purse kb) (H1.out.two.pic.same rfl rfl)))
        | (go_at_call 46; refine (law3_coded A _ PS.move10 _ (HS.out.below H2.out.two.below)).mono ?_; rintro y wd ⟨rfl, kc⟩; have H3 := Lib.hid (H2.out.next kc)))
    go_wp2_with fail
    go_ret
    exact ⟨rfl, by rw [HD.out]; exact ⟨_, _, _, _, by omega, H3.out.two⟩⟩
  · rw [if_neg m20] at HD
    have n20 : (s.toList == [112, 97, 121]) = false := by simpa using m20
    clear m20
    by_cases m21 : (s.toList == [115, 116, 97, 107, 101]) = true
    · rw [if_pos m21] at HD
      go_wp2_with fail
      go_region_held3 (fun w' => w'.cell? ⟨w.heap.size, 1, none⟩ = some (.int .i64 o) ∧ w'.cell? ⟨w.heap.size, 3, none⟩ = some (.int .i64 b) ∧ w'.cell? ⟨w.heap.size, 4, none⟩ = some (.int .i64 N)) (first | exact ⟨H1.out.c1, H1.out.c3, H1.out.c4⟩ | exact ⟨H2.out.c1, H2.out.c3, H2.out.c4⟩ | exact ⟨H3.out.c1, H3.out.c3, H3.out.c4⟩ | exact ⟨HA.out.c1, HA.out.c3, HA.out.c4⟩)
        (first
          | (go_at_call 85; refine (chain_Stake A [1, 2, 3, 4, 5, 6, 7, 8, 9, 10] _ (K.foot cb) cb K n sd x _ o b N (HA.out.drewN 1).two.lgo HE1.out.1 HE1.out.2 m2 m4 m6 m7 m8 HM.out.2.2).mono ?_; rintro y wa ⟨rfl, K2, ka⟩; have H1 := Lib.hid ((HA.out.drewN 1).lawed ka))
          | (go_at_call 109; refine (refc_Stake _ (R.foot rb) rb R sd x Z _ o b N H1.out.two.dgo).mono ?_; rintro y wc ⟨rfl, R2, kb⟩; have H2 := Lib.hid (H1.out.doced kb (H1.out.two.pic.same (CS.stake_pics x o b N).1 (CS.stake_pics x o b N).2)))
          | (go_at_call 46; refine (law3_coded A _ CS.stake10 _ (HS.out.below H2.out.two.below)).mono ?_; rintro y wd ⟨rfl, kc⟩; have H3 := Lib.hid (H2.out.next kc)))
      go_wp2_with fail
      go_ret
      exact ⟨rfl, by rw [HD.out]; exact ⟨_, _, _, _, by omega, H3.out.two⟩⟩
    · rw [if_neg m21] at HD
      have n21 : (s.toList == [115, 116, 97, 107, 101]) = false := by simpa using m21
      clear m21
      by_cases m22 : (s.toList == [117, 110, 115, 116, 97, 107, 101]) = true
      · rw [if_pos m22] at HD
        go_wp2_with fail
        go_region_held3 (fun w' => w'.cell? ⟨w.heap.size, 1, none⟩ = some (.int .i64 o) ∧ w'.cell? ⟨w.heap.size, 3, none⟩ = some (.int .i64 b) ∧ w'.cell? ⟨w.heap.size, 4, none⟩ = some (.int .i64 N) ∧ w'.cell? ⟨rb, 1, none⟩ = some (.pointer (some ⟨R.sb, 0, none⟩)) ∧ w'.cell? ⟨rb, 4, none⟩ = some (.int .i64 x.cycle)) (first | exact ⟨H1.out.c1, H1.out.c3, H1.out.c4, H1.out.two.dgo.c1, H1.out.two.dgo.c4⟩ | exact ⟨H2.out.c1, H2.out.c3, H2.out.c4, H2.out.two.dgo.c1, H2.out.two.dgo.c4⟩ | exact ⟨H3.out.c1, H3.out.c3, H3.out.c4, H3.out.two.dgo.c1, H3.out.two.dgo.c4⟩ | exact ⟨HA.out.c1, HA.out.c3, HA.out.c4, HA.out.two.dgo.c1, HA.out.two.dgo.c4⟩)
          (first
            | (go_at_call 87; refine (chain_Unstake A [1, 2, 3, 4, 5, 6, 7, 8, 9, 10] _ (K.foot cb) cb K n sd x _ o b N (HA.out.drewN 1).two.lgo HE1.out.1 HE1.out.2 m2 m4 m6 m7 m8 HM.out.1 hcyw).mono ?_; rintro y wa ⟨rfl, K2, ka⟩; have H1 := Lib.hid ((HA.out.drewN 1).lawed ka))
            | (go_at_call 70; refine (refs_Leave R.sb R.Fs x.s _ o b N x.cycle H1.out.two.doc.ch.st hW).mono ?_; rintro y wc ⟨rfl, kb⟩; have H2 := Lib.hid (H1.out.doced (H1.out.two.dgo.stakes kb) (H1.out.two.pic.same rfl rfl)))
            | (go_at_call 46; refine (law3_coded A _ SS.leave10 _ (HS.out.below H2.out.two.below)).mono ?_; rintro y wd ⟨rfl, kc⟩; have H3 := Lib.hid (H2.out.next kc)))
        go_wp2_with fail
        go_ret
        exact ⟨rfl, by rw [HD.out]; exact ⟨_, _, _, _, by omega, H3.out.two⟩⟩
      · rw [if_neg m22] at HD
        have n22 : (s.toList == [117, 110, 115, 116, 97, 107, 101]) = false := by simpa using m22
        clear m22
        by_cases m23 : (s.toList == [102, 114, 101, 101]) = true
        · rw [if_pos m23] at HD
          have e1 := HA.out.c1; simp only at e1
          go_wp2_with fail
          refine (chain_Free A [1, 2, 3, 4, 5, 6, 7, 8, 9, 10] _ (K.foot cb) cb K n sd x _ o HA.out.two.lgo HX.out HEE.out.1 HEE.out.2 m2 m4 m6 hW HM.out.2.1).mono ?_
          rintro y wa ⟨rfl, K2, ka⟩
          have H1 := Lib.hid (HA.out.lawed ka); clear ka e1
          have e1 := H1.out.c1; simp only at e1
          go_wp2_with fail
          refine (refc_Free _ (R.foot rb) rb R sd x Z _ o H1.out.two.dgo hW).mono ?_
          rintro y wc ⟨rfl, R2, kb⟩
          have H2 := Lib.hid (H1.out.doced kb (H1.out.two.pic.same (CS.free_pics x o).1 (CS.free_pics x o).2)); clear kb e1
          have hvv : ((x.freeOp o).1 == (x.freeOp o).1) = true := beq_self_eq_true _
          go_wp2_with fail
          refine (law3_coded A _ CS.free10 _ (HS.out.below H2.out.two.below)).mono ?_
          rintro y wd ⟨rfl, kc⟩
          have H3 := Lib.hid (H2.out.next kc); clear kc
          go_wp2_with fail
          go_ret
          exact ⟨rfl, by rw [HD.out]; exact ⟨_, _, _, _, by omega, H3.out.two⟩⟩
        · rw [if_neg m23] at HD
          have n23 : (s.toList == [102, 114, 101, 101]) = false := by simpa using m23
          clear m23
          by_cases m24 : (s.toList == [97, 99, 99, 117, 115, 101]) = true
          · rw [if_pos m24] at HD
            go_wp2_with fail
            go_region_held3 (fun w' => w'.cell? ⟨w.heap.size, 1, none⟩ = some (.int .i64 o) ∧ w'.cell? ⟨w.heap.size, 6, none⟩ = some (.int .i64 e.b) ∧ w'.cell? ⟨w.heap.size, 7, none⟩ = some (.int .i64 e.c) ∧ w'.cell? ⟨w.heap.size, 8, none⟩ = some (.int .i64 e.n) ∧ w'.cell? ⟨rb, 2, none⟩ = some (.pointer (some ⟨R.kb, 0, none⟩)) ∧ w'.cell? ⟨rb, 4, none⟩ = some (.int .i64 x.cycle)) (first | exact ⟨H1.out.c1, H1.out.c6, H1.out.c7, H1.out.c8, H1.out.two.dgo.c2, H1.out.two.dgo.c4⟩ | exact ⟨H2.out.c1, H2.out.c6, H2.out.c7, H2.out.c8, H2.out.two.dgo.c2, H2.out.two.dgo.c4⟩ | exact ⟨H3.out.c1, H3.out.c6, H3.out.c7, H3.out.c8, H3.out.two.dgo.c2, H3.out.two.dgo.c4⟩ | exact ⟨HA.out.c1, HA.out.c6, HA.out.c7, HA.out.c8, HA.out.two.dgo.c2, HA.out.two.dgo.c4⟩)
              (first
                | (go_at_call 89; refine (chain_Accuse A [1, 2, 3, 4, 5, 6, 7, 8, 9, 10] _ (K.foot cb) cb K n sd x _ o e (HA.out.drewN 1).two.lgo HE1.out.1 HE1.out.2 m2 m5 m10 hew (by omega) (by omega)).mono ?_; rintro y wa ⟨rfl, K2, ka⟩; have H1 := Lib.hid ((HA.out.drewN 1).lawed ka))
                | (go_at_call 111; refine (ref_CourtAccuse R.kb R.Fk x.k o e x.cycle _ H1.out.two.doc.ch.ct (by omega)).mono ?_; rintro y wc ⟨rfl, kb⟩; have H2 := Lib.hid (H1.out.doced (H1.out.two.dgo.court kb) (H1.out.two.pic.same rfl rfl)))
                | (go_at_call 46; refine (law3_coded A _ KS.accuse10 _ (HS.out.below H2.out.two.below)).mono ?_; rintro y wd ⟨rfl, kc⟩; have H3 := Lib.hid (H2.out.next kc)))
            go_wp2_with fail
            go_ret
            exact ⟨rfl, by rw [HD.out]; exact ⟨_, _, _, _, by omega, H3.out.two⟩⟩
          · rw [if_neg m24] at HD
            have n24 : (s.toList == [97, 99, 99, 117, 115, 101]) = false := by simpa using m24
            clear m24
            by_cases m25 : (s.toList == [98, 97, 107, 101]) = true
            · rw [if_pos m25] at HD
              have e3 := HA.out.c3; have e5 := HA.out.c5; simp only at e3 e5
              go_wp2_with fail
              refine (chain_Bake A [1, 2, 3, 4, 5, 6, 7, 8, 9, 10] _ (K.foot cb) cb K n sd x _ b r HA.out.two.lgo HX.out hs HEE.out.1 HEE.out.2 m2 m3 m4 m6 m9 hW (by omega) (by omega)).mono ?_
              rintro y wa ⟨rfl, K2, ka⟩
              have H1 := Lib.hid (HA.out.lawed ka); clear ka e3 e5
              have e3 := H1.out.c3; have e5 := H1.out.c5; simp only at e3 e5
              go_wp2_with fail
              refine (refc_Bake _ (R.foot rb) rb R sd x Z _ b r H1.out.two.dgo HX.out H1.out.two.pic hs hW (by omega)).mono ?_
              rintro y wc ⟨rfl, R2, Z2, kb, kp⟩
              have H2 := Lib.hid (H1.out.doced kb kp); clear kb e3 e5
              have hvv : ((x.bakeOp sd b r).1 == (x.bakeOp sd b r).1) = true := beq_self_eq_true _
              go_wp2_with fail
              refine (law3_coded A _ CS.bake10 _ (HS.out.below H2.out.two.below)).mono ?_
              rintro y wd ⟨rfl, kc⟩
              have H3 := Lib.hid (H2.out.next kc); clear kc
              go_wp2_with fail
              go_ret
              exact ⟨rfl, by rw [HD.out]; exact ⟨_, _, _, _, by omega, H3.out.two⟩⟩
            · rw [if_neg m25] at HD
              have n25 : (s.toList == [98, 97, 107, 101]) = false := by simpa using m25
              clear m25
              have e5 := HA.out.c5; simp only at e5
              have HTL := Lib.hid (chain_Turn A [1, 2, 3, 4, 5, 6, 7, 8, 9, 10] _ (K.foot cb) cb K n sd x r _ HA.out.two.lgo HX.out hs HEE.out.1 HEE.out.2 m2 m3 m4)
              have HTC := Lib.hid (show x.turnC r ≤ 10 from CS.turn10)
              go_wp2_with fail
              refine HTL.out.mono ?_
              rintro y w1 ⟨rfl, b1⟩
              have H1 := Lib.hid (HA.out.next b1); clear b1 e5 HTL
              have e5 := H1.out.c5; simp only at e5
              go_wp2_with fail
              refine (refc_Turn _ (R.foot rb) rb R sd x Z _ r H1.out.two.dgo HX.out H1.out.two.pic hs).mono ?_
              rintro y w2 ⟨rfl, b2⟩
              have H2 := Lib.hid (H1.out.next b2); clear b2 e5
              obtain ⟨wa, hwa⟩ : ∃ wa, w2.alloc (.cells #[.int .i64 (x.turnC r), .int .i64 (-1)] 86) = wa := ⟨_, rfl⟩
              have RA : RowAt w2.heap.size 86 [.int .i64 (x.turnC r), .int .i64 (-1)] wa := by rw [← hwa]; exact RowAt.new _ _ _
              have BA : Below w2.heap.size w2 wa := by rw [← hwa]; exact (Below.refl _ _).alloc (Nat.le_refl _) _
              have H3 := Lib.hid (H2.out.next BA)
              have HRA := Lib.hid RA
              have q0 := RA.cell 0; have q1 := RA.cell 1
              simp only [List.getElem?_cons_zero, List.getElem?_cons_succ] at q0 q1
              have HF := Lib.hid (law3_faulted A (ev A (x.turnC r)) (x.turnC r, -1) wa wa (HS.out.below H3.out.two.below) ErrIs.bare HTC.out (fun h => absurd rfl h))
              clear RA BA
              have hvv : (x.turnV sd r != x.turnV sd r) = false := bne_self_eq_false _
              by_cases hc : x.turnC r = 0
              · have E3 := Lib.hid (show x.btS sd r = (x.bakeOp sd (x.turnV sd r) r).2.2 by unfold CS.btS CS.bakeOp; rw [if_pos hc, if_neg (by simp [hc]), if_neg (by simp)])
                rw [E3.out] at HD
                have h0 : decide ((0 : Int) < (x.turnC r : Int)) = false := by rw [hc]; rfl
                have h0' : decide (0 < x.turnC r) = false := by rw [hc]; rfl
                clear hc E3
                generalize x.turnC r = tc at *
                generalize x.turnV sd r = tv at *
                go_wp2_with fail
                refine HF.out.mono ?_
                rintro y w3 ⟨rfl, b3⟩
                have H4 := Lib.hid (H3.out.next b3)
                have r0 := HRA.out.below b3 HRA.out.lt
                clear b3 q0 q1
                have q0 := r0.cell 0; have q1 := r0.cell 1
                simp only [List.getElem?_cons_zero, List.getElem?_cons_succ] at q0 q1
                clear r0
                have e5 := H4.out.c5; simp only at e5
                have HE4 := Lib.hid (errs_two H4.out.two HS.out)
                go_wp2_with fail
                refine (chain_Bake A [1, 2, 3, 4, 5, 6, 7, 8, 9, 10] _ (K.foot cb) cb K n sd x _ tv r H4.out.two.lgo HX.out hs HE4.out.1 HE4.out.2 m2 m3 m4 m6 m9 hW (by omega) (by omega)).mono ?_
                rintro y wb2 ⟨rfl, K2, ka⟩
                have H5 := Lib.hid (H4.out.lawed ka); clear ka e5 q0 q1
                have e5 := H5.out.c5; simp only at e5
                go_wp2_with fail
                refine (refc_Bake _ (R.foot rb) rb R sd x Z _ tv r H5.out.two.dgo HX.out H5.out.two.pic hs hW (by omega)).mono ?_
                rintro y wc ⟨rfl, R2, Z2, kb, kp⟩
                have H6 := Lib.hid (H5.out.doced kb kp); clear kb kp e5
                have hnn : ((x.bakeOp sd tv r).1 == (x.bakeOp sd tv r).1) = true := beq_self_eq_true _
                go_wp2_with fail
                refine (law3_coded A _ CS.bake10 _ (HS.out.below H6.out.two.below)).mono ?_
                rintro y wd ⟨rfl, kc⟩
                have H7 := Lib.hid (H6.out.next kc); clear kc
                go_wp2_with fail
                go_ret
                exact ⟨rfl, by rw [HD.out]; exact ⟨_, _, _, _, by omega, H7.out.two⟩⟩
              · have E3 := Lib.hid (show x.btS sd r = x from if_neg hc)
                rw [E3.out] at HD
                have h0 : decide ((0 : Int) < (x.turnC r : Int)) = true := by simp; omega
                have h0' : decide (0 < x.turnC r) = true := by simp; omega
                clear hc E3
                generalize x.turnC r = tc at *
                generalize x.turnV sd r = tv at *
                go_wp2_with fail
                refine HF.out.mono ?_
                rintro y w3 ⟨rfl, b3⟩
                have H4 := Lib.hid (H3.out.next b3)
                have r0 := HRA.out.below b3 HRA.out.lt
                clear b3 q0 q1
                have q0 := r0.cell 0; have q1 := r0.cell 1
                simp only [List.getElem?_cons_zero, List.getElem?_cons_succ] at q0 q1
                clear r0
                go_wp2_with fail
                go_ret
                exact ⟨rfl, by rw [HD.out]; exact ⟨_, _, _, _, by omega, H4.out.two⟩⟩
end Go.Proofs.YtajnfkmkombajacGreatDoor
