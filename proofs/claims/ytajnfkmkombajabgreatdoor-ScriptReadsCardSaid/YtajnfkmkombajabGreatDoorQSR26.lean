/-
  Scripts: a cycle to its end; a block by its turn; where a chain stands.
  Scripts: act, tell, look: a command with its form.
  Scripts: the closures of act, tell, look, round what they hold.
  A map whose keys are strings, whatever its elements: laid, stored into, looked up. No program in sight.
  Scripts: the map of commands.
-/
import Derived.Test.YtajnfkmkombajabGreatDoorQSR25
import Derived.Deep.LoopGhost
import Derived.Test.YtajnfkmkombajabGreatDoorQSR01
import Derived.Laws.Concat
import Derived.Test.YtajnfkmkombajabGreatDoorProg
import Derived.Laws.Rows
import Derived.Laws.ResultCell
import Derived.Laws.EntriesVeiled
import Derived.WalkKit
import Derived.Test.YtajnfkmkombajabGreatDoorQSR03
import Derived.Maps.OwnSet
set_option linter.unusedVariables false
set_option linter.unusedSimpArgs false
set_option linter.unusedVariables false
namespace Go.Proofs.YtajnfkmkombajabGreatDoor
open Go.RowKit Go.Maps

/-- a cycle under way: so many blocks are left -/
structure CycAt (x : CS) (sd g : Nat) (y : CS) : Prop where
  inv : y.Inv
  w : y.s.W.length = x.s.W.length
  k : y.k.L.length = x.k.L.length
  le : g ≤ 4
  eq : x.cycleOp sd = CS.cycleN sd g y
  at_ : (g = 0 ∧ y.cycle = x.cycle + 1) ∨ (g = y.left ∧ y.cycle = x.cycle)
theorem CycAt.start {x : CS} (h : x.Inv) (sd : Nat) : CycAt x sd x.left x := ⟨h, rfl, rfl, (CS.left_bd h).2, rfl, .inr ⟨rfl, rfl⟩⟩
theorem CycAt.next {x y : CS} {sd m : Nat} (h : CycAt x sd (m + 1) y) (hc : y.turnC 0 = 0) : CycAt x sd m (y.btS sd 0) := by
  obtain ⟨k1, k2, k3, k4⟩ := CS.bt_keeps h.inv sd 0
  obtain ⟨b1, b2, b3⟩ := CS.bt_step h.inv sd hc
  have ha := h.at_.resolve_left (fun e => by omega)
  obtain ⟨n1, n2⟩ := CS.left_next h.inv ha.1.symm b1
  have he : CS.cycleN sd (m + 1) y = CS.cycleN sd m (y.btS sd 0) := by
    show (if y.turnC 0 ≠ 0 then _ else _) = _
    rw [if_neg (by simp [hc])]
  refine ⟨k1, by rw [k2, h.w], by rw [k3, h.k], by have := h.le; omega, h.eq.trans he, ?_⟩
  by_cases h0 : m = 0
  · exact .inl ⟨h0, by rw [b2 (n1.2 h0), ha.2]⟩
  · exact .inr ⟨(n2 h0).symm, by rw [b3 (fun e => h0 (n1.1 e)), ha.2]⟩

theorem Left.start {w : World} {cb n m sd : Nat} {K : ChL} {x : CS} (g : ChGo w (K.foot cb) cb K n sd x w) (h : n ≤ m) : Left w (K.foot cb) cb sd m x w := ⟨K, n, h, g⟩

set_option maxRecDepth 8000 in
set_option maxHeartbeats 1000000 in
theorem scr_cycle (A : Nat → Addr) (W : World) (cb : Nat) (K : ChL) (n sd : Nat) (x : CS) (pb : Nat) (w : World) (h : CmdIn A W cb K n sd x pb w) :
    Calls Tryz.prog 45 #[.pointer (some ⟨pb, 0, none⟩)] w fun e w' => e = .returned (ev A (x.cycleOp sd).1) ∧ Left w (K.foot cb) cb sd (n + 6 + x.s.W.length) (x.cycleOp sd).2 w' := by
  have m2 : (2 : Nat) ∈ [1, 2, 3, 4, 5, 6, 7, 8, 9, 10] := by decide
  have m3 : (3 : Nat) ∈ [1, 2, 3, 4, 5, 6, 7, 8, 9, 10] := by decide
  have m4 : (4 : Nat) ∈ [1, 2, 3, 4, 5, 6, 7, 8, 9, 10] := by decide
  have m6 : (6 : Nat) ∈ [1, 2, 3, 4, 5, 6, 7, 8, 9, 10] := by decide
  have m9 : (9 : Nat) ∈ [1, 2, 3, 4, 5, 6, 7, 8, 9, 10] := by decide
  have H := Lib.hid h
  have p0 := h.p0
  have HE := Lib.hid h.errs
  have HS := h.sd
  have hW := h.w8; have hn := h.n9; have hk := h.k9
  have HC := Lib.hid (CycAt.start h.inv sd)
  have hlb := CS.left_bd h.inv
  have HKP := Lib.hid (fun w2 (q : Keep (K.foot cb) w w2) => show w2.cell? ⟨pb, 0, none⟩ = some (.pointer (some ⟨cb, 0, none⟩)) from by rw [q.cell (p := ⟨pb, 0, none⟩) (World.block_lt_of_cell? w _ p0) h.pf]; exact p0)
  clear h
  go_enter Tryz.func45, Tryz.ntmps45
  go_wp2_with fail
  refine (chain_Cycle H.out.cn.go).mono ?_
  rintro e w1 ⟨rfl, rfl⟩
  go_wp2_with fail
  have HL4 := Lib.hid hlb.2
  go_loopg [6] x.left (fun g (v : Value) wr => ∃ (K' : ChL) (n' : Nat) (y : CS), n' + g ≤ n + 4 ∧ ChGo w (K.foot cb) cb K' n' sd y wr ∧ CycAt x sd g y)
  case atStart => exact ⟨K, n, x, by have := HL4.out; omega, H.out.cn.go, HC.out⟩
  case round =>
    clear HC p0
    obtain ⟨K1, n1, y, hn1, g1, hc⟩ := hrel
    have H1 := Lib.hid g1; have HC := Lib.hid hc
    have p0 := HKP.out _ g1.keep
    clear g1 hc
    have hyW := HC.out.w; have hyk := HC.out.k
    have HN1 := Lib.hid hn1; clear hn1 hlb
    cases gk with
    | zero =>
      have hcy := (HC.out.at_.resolve_right (fun e => by have := (CS.left_bd HC.out.inv).1; omega)).2
      have t1 : (y.cycle == x.cycle) = false := by rw [beq_eq_false_iff_ne]; omega
      have HEQ := Lib.hid HC.out.eq
      clear hcy
      go_wp2_with fail
      refine (chain_Cycle H1.out).mono ?_
      rintro e w2 ⟨rfl, rfl⟩
      go_wp2_with fail
      go_ret
      exact ⟨by rw [HEQ.out]; rfl, by rw [HEQ.out]; exact ⟨K1, n1, by have := HN1.out; omega, H1.out⟩⟩
    | succ m =>
      have hcy := (HC.out.at_.resolve_left (fun e => by omega)).2
      have t1 : (y.cycle == x.cycle) = true := by rw [hcy]; exact beq_self_eq_true _
      have HEQ := Lib.hid HC.out.eq
      clear hcy
      have HB := Lib.hid (fun wx (g : ChGo w (K.foot cb) cb K1 n1 sd y wx) => play_Bake A [1, 2, 3, 4, 5, 6, 7, 8, 9, 10] w (K.foot cb) cb K1 n1 sd y wx 0 g HC.out.inv HS HE.out.1 HE.out.2 m2 m3 m4 m6 m9 (by omega) (by have := HN1.out; omega) (by omega))
      by_cases hc0 : y.turnC 0 = 0
      · have HN := Lib.hid (HC.out.next hc0)
        rw [hc0] at HB
        simp only [ev_nil] at HB
        clear hc0 hyW hyk
        generalize y.btS sd 0 = z at *
        generalize y.btV sd 0 = v1 at *
        generalize y.btN sd 0 = v2 at *
        go_wp2_with fail
        refine (chain_Cycle H1.out).mono ?_
        rintro e w2 ⟨rfl, rfl⟩
        go_wp2_with fail
        refine (HB.out _ H1.out).mono ?_
        rintro e w3 ⟨rfl, K2, g2⟩
        have H2 := Lib.hid g2; clear g2
        go_wp2_with fail
        go_roundg m
        case measure => omega
        case rel => exact ⟨K2, n1 + 1, z, by have := HN1.out; omega, H2.out, HN.out⟩
      · have hr : CS.cycleN sd (m + 1) y = (y.turnC 0, y) := by
          show (if y.turnC 0 ≠ 0 then _ else _) = _
          rw [if_pos hc0]
        have hs : y.btS sd 0 = y := if_neg hc0
        rw [hr] at HEQ
        rw [hs] at HB
        have hev := ev_some A hc0
        rw [hev] at HB
        have HEV := Lib.hid hev
        clear hr hs hc0 hev hyW hyk
        generalize y.btV sd 0 = v1 at *
        generalize y.btN sd 0 = v2 at *
        go_wp2_with fail
        refine (chain_Cycle H1.out).mono ?_
        rintro e w2 ⟨rfl, rfl⟩
        go_wp2_with fail
        refine (HB.out _ H1.out).mono ?_
        rintro e w3 ⟨rfl, K2, g2⟩
        have H2 := Lib.hid g2; clear g2
        go_wp2_with fail
        go_ret
        exact ⟨by rw [HEQ.out, HEV.out]; rfl, by rw [HEQ.out]; exact ⟨K2, n1 + 1, by have := HN1.out; omega, H2.out⟩⟩

section
variable (A : Nat → Addr) (W : World) (cb : Nat) (K : ChL) (n sd : Nat) (x : CS) (pb : Nat) (w : World)
set_option maxRecDepth 8000 in
theorem scr_cmd4 (nv : Value) (ns : List Int) (h : CmdIn A W cb K n sd x pb w) :
    Calls Tryz.prog 44 #[.pointer (some ⟨pb, 0, none⟩), nv] w fun e w' => e = .returned (ev A (x.cmdOp sd 4 ns).2.1) ∧ Left w (K.foot cb) cb sd (n + 6 + x.s.W.length) (x.cmdOp sd 4 ns).2.2 w' := by
  have H := Lib.hid (scr_cycle A W cb K n sd x pb w h)
  clear h
  go_enter Tryz.func44, Tryz.ntmps44
  go_wp2_with fail
  refine H.out.mono ?_
  rintro e w2 ⟨rfl, hl⟩
  have HL := Lib.hid hl; clear hl
  go_wp2_with fail
  go_ret
  exact ⟨rfl, HL.out⟩

theorem itoaB_size {v : Int} (h : I64 v) : (itoaB v).size ≤ 21 := by
  have := itoa_len21 v h.1 h.2
  simpa [itoaB, ByteArray.size] using this

set_option maxRecDepth 8000 in
set_option maxHeartbeats 1000000 in
theorem scr_cmd7 (ao : Option Addr) (cap : Nat) (ns : List Int) (h : CmdIn A W cb K n sd x pb w) (R : RdI .i64 w ao 1 cap ns) (hb : ∀ a, ao = some a → ¬ K.foot cb a.block) (hv1 : I64 (x.btV sd (ns.getD 0 0))) (hv2 : I64 (x.btN sd (ns.getD 0 0))) :
    Calls Tryz.prog 51 #[.pointer (some ⟨pb, 0, none⟩), .slice ao 1 cap] w fun e w' => e = .returned (.tuple #[.string (x.cmdOp sd 7 ns).1, ev A (x.cmdOp sd 7 ns).2.1]) ∧ Left w (K.foot cb) cb sd (n + 6 + x.s.W.length) (x.cmdOp sd 7 ns).2.2 w' := by
  have m2 : (2 : Nat) ∈ [1, 2, 3, 4, 5, 6, 7, 8, 9, 10] := by decide
  have m3 : (3 : Nat) ∈ [1, 2, 3, 4, 5, 6, 7, 8, 9, 10] := by decide
  have m4 : (4 : Nat) ∈ [1, 2, 3, 4, 5, 6, 7, 8, 9, 10] := by decide
  have m6 : (6 : Nat) ∈ [1, 2, 3, 4, 5, 6, 7, 8, 9, 10] := by decide
  have m9 : (9 : Nat) ∈ [1, 2, 3, 4, 5, 6, 7, 8, 9, 10] := by decide
  obtain ⟨b, off, rfl, n0⟩ := R.cells 0 (by decide)
  rw [Nat.add_zero] at n0
  have hbn := hb _ rfl
  simp only at hbn
  have H := Lib.hid h
  have p0 := h.p0
  have HB := Lib.hid (play_Bake A [1, 2, 3, 4, 5, 6, 7, 8, 9, 10] _ (K.foot cb) cb K n sd x _ (ns.getD 0 0) (h.drewN 1).cn.go h.inv h.sd (h.drewN 1).errs.1 (h.drewN 1).errs.2 m2 m3 m4 m6 m9 h.w8 (by have := h.n9; omega) (by have := h.k9; omega))
  have HS0 := Lib.hid (fun j => show (w.drewN j).cell? ⟨pb, 0, none⟩ = some (.pointer (some ⟨cb, 0, none⟩)) ∧ (w.drewN j).cell? ⟨b, off, none⟩ = some (.int .i64 (ns.getD 0 0)) from ⟨p0, n0⟩)
  have HKP := Lib.hid (fun w2 (q : Keep (K.foot cb) (w.drewN 1) w2) => show w2.cell? ⟨pb, 0, none⟩ = some (.pointer (some ⟨cb, 0, none⟩)) ∧ w2.cell? ⟨b, off, none⟩ = some (.int .i64 (ns.getD 0 0)) from ⟨by rw [q.cell (p := ⟨pb, 0, none⟩) (World.block_lt_of_cell? (w.drewN 1) _ p0) h.pf]; exact p0, by rw [q.cell (p := ⟨b, off, none⟩) (World.block_lt_of_cell? (w.drewN 1) _ n0) hbn]; exact n0⟩)
  have HLK := Lib.hid (fun w2 (q : Below W.heap.size W w2) => h.lw.below q)
  have HCN := Lib.hid (fun w2 K2 m y (g : ChGo (w.drewN 1) (K.foot cb) cb K2 m sd y w2) => ((h.drewN 1).cn.of g).below)
  have hs1 := itoaB_size hv1; have hs2 := itoaB_size hv2
  have HI1 := Lib.hid hv1; have HI2 := Lib.hid hv2
  have HEQ := Lib.hid (show x.cmdOp sd 7 ns = (itoaB (x.btV sd (ns.getD 0 0)) ++ spB ++ itoaB (x.btN sd (ns.getD 0 0)), x.turnC (ns.getD 0 0), x.btS sd (ns.getD 0 0)) from rfl)
  rw [HEQ.out]
  clear h R hb hbn hv1 hv2
  generalize x.btS sd (ns.getD 0 0) = z at *
  generalize x.btV sd (ns.getD 0 0) = v1 at *
  generalize x.btN sd (ns.getD 0 0) = v2 at *
  have hq1 : ((itoaB v1).size : Int) ≤ 21 := by omega
  have hq2 : ((itoaB v2).size : Int) ≤ 21 := by omega
  have hsp : (⟨#[32]⟩ : ByteArray).size = 1 := rfl
  have ha1 : (itoaB v1 ++ (⟨#[32]⟩ : ByteArray)).size = (itoaB v1).size + 1 := by rw [ByteArray.size_append]; rfl
  have ha2 : ¬ (9223372036854775807 < (itoaB v1).size + (⟨#[32]⟩ : ByteArray).size) := by rw [hsp]; omega
  have ha3 : ¬ (9223372036854775807 < (itoaB v1 ++ (⟨#[32]⟩ : ByteArray)).size + (itoaB v2).size) := by rw [ha1]; omega
  go_enter Tryz.func51, Tryz.ntmps51
  go_wp2_with fail
  go_region_held3 (fun w' => w'.cell? ⟨pb, 0, none⟩ = some (.pointer (some ⟨cb, 0, none⟩)) ∧ w'.cell? ⟨b, off, none⟩ = some (.int .i64 (ns.getD 0 0))) (first | exact HSA.out | exact HS0.out _)
    ((go_at_call 52; refine HB.out.mono ?_; rintro y w2 ⟨rfl, K2, g⟩; have H1 := Lib.hid g; have HSA := Lib.hid (HKP.out _ g.keep)))
  all_goals
    clear ha1 hsp
    go_wp2_with fail
    refine (scr_Itoa A v1 HI1.out _ (HLK.out _ (HCN.out _ _ _ _ H1.out))).mono ?_
    rintro y w3 ⟨rfl, b3⟩
    have B3 := Lib.hid b3; clear b3
    go_wp2_with fail
    refine (scr_Itoa A v2 HI2.out _ (HLK.out _ (btrans (HCN.out _ _ _ _ H1.out) B3.out))).mono ?_
    rintro y w4 ⟨rfl, b4⟩
    have B4 := Lib.hid (btrans B3.out b4); clear b4
    go_wp2_with fail
    go_ret2
    exact ⟨rfl, H.out.left ((Below.refl _ _).drewN 1) (H1.out.below B4.out) (by omega)⟩
set_option maxRecDepth 8000 in
set_option maxHeartbeats 1000000 in
theorem scr_cmd14 (nv : Value) (ns : List Int) (h : CmdIn A W cb K n sd x pb w) :
    Calls Tryz.prog 67 #[.pointer (some ⟨pb, 0, none⟩), nv] w fun e w' => e = .returned (.tuple #[.string (x.cmdOp sd 14 ns).1, ev A (x.cmdOp sd 14 ns).2.1]) ∧ Left w (K.foot cb) cb sd (n + 6 + x.s.W.length) (x.cmdOp sd 14 ns).2.2 w' := by
  have H := Lib.hid h
  have p0 := h.p0
  have hv1 : I64 x.cycle := ⟨by have := h.inv.cy; omega, by have := h.cy; omega⟩
  have hv2 : I64 x.level := ⟨by have := h.inv.lv; omega, by have := h.lv; omega⟩
  have HSB := Lib.hid (fun wx (q : Below w.heap.size w wx) => show wx.cell? ⟨pb, 0, none⟩ = some (.pointer (some ⟨cb, 0, none⟩)) from (h.next q).p0)
  have QC := Lib.hid (fun wx (q : Below w.heap.size w wx) => chain_Cycle (h.next q).cn.go)
  have QL := Lib.hid (fun wx (q : Below w.heap.size w wx) => chain_Level (h.next q).cn.go)
  have QI1 := Lib.hid (fun wx (q : Below w.heap.size w wx) => scr_Itoa A x.cycle hv1 wx (h.next q).lib)
  have QI2 := Lib.hid (fun wx (q : Below w.heap.size w wx) => scr_Itoa A x.level hv2 wx (h.next q).lib)
  have HB1 := Lib.hid ((Below.refl w.heap.size w).drewN 1)
  have hs1 := itoaB_size hv1; have hs2 := itoaB_size hv2
  have HEQ := Lib.hid (show x.cmdOp sd 14 ns = (itoaB x.cycle ++ spB ++ itoaB x.level, 0, x) from rfl)
  rw [HEQ.out]
  clear h hv1 hv2 HEQ
  generalize hxc : x.cycle = v1 at *
  generalize hxl : x.level = v2 at *
  clear hxc hxl
  have hsp : (⟨#[32]⟩ : ByteArray).size = 1 := rfl
  have ha1 : (itoaB v1 ++ (⟨#[32]⟩ : ByteArray)).size = (itoaB v1).size + 1 := by rw [ByteArray.size_append]; rfl
  have ha2 : ¬ (9223372036854775807 < (itoaB v1).size + (⟨#[32]⟩ : ByteArray).size) := by rw [hsp]; omega
  have ha3 : ¬ (9223372036854775807 < (itoaB v1 ++ (⟨#[32]⟩ : ByteArray)).size + (itoaB v2).size) := by rw [ha1]; omega
  have hb2 : ¬ (9223372036854775807 < (itoaB v1).size + 1) := by omega
  have hb3 : ¬ (9223372036854775807 < (itoaB v1).size + 1 + (itoaB v2).size) := by omega
  have hb4 : (9223372036854775807 < (itoaB v1).size + 1) = False := eq_false hb2
  have hb5 : (9223372036854775807 < (itoaB v1).size + 1 + (itoaB v2).size) = False := eq_false hb3
  have hb6 : decide (9223372036854775807 < (itoaB v1).size + 1) = false := decide_eq_false hb2
  have hb7 : decide (9223372036854775807 < (itoaB v1).size + 1 + (itoaB v2).size) = false := decide_eq_false hb3
  clear ha1 hsp
  go_enter Tryz.func67, Tryz.ntmps67
  go_wp2_with fail
  go_region_held3 (fun w' => w'.cell? ⟨pb, 0, none⟩ = some (.pointer (some ⟨cb, 0, none⟩))) (first | exact HSB.out _ HB3.out | exact HSB.out _ HB2.out | exact HSB.out _ HB1.out | exact HSB.out _ ((Below.refl w.heap.size w).drewN _))
    (first
      | (go_at_call 68; refine (QC.out _ HB1.out).mono ?_; rintro y wa ⟨rfl, rfl⟩)
      | (go_at_call 53; refine (QI1.out _ HB1.out).mono ?_; rintro y wb ⟨rfl, b2⟩; have HB2 := Lib.hid (btrans HB1.out b2))
      | (go_at_call 69; refine (QL.out _ HB2.out).mono ?_; rintro y wc ⟨rfl, rfl⟩)
      | (go_at_call 53; refine (QI2.out _ HB2.out).mono ?_; rintro y wd ⟨rfl, b3⟩; have HB3 := Lib.hid (btrans HB2.out b3)))
  all_goals
    go_wp2_with fail
    go_ret2
    exact ⟨rfl, H.out.same HB3.out (by omega)⟩
end
end Go.Proofs.YtajnfkmkombajabGreatDoor
namespace Go.Proofs.YtajnfkmkombajabGreatDoor
open Go.RowKit Go.Maps

def fnV (f : Nat) : Value := .func (.func f) #[] #[]
/-- a closure that holds the block h -/
def closV (f h : Nat) : Value := .func (.func f) #[] #[.pointer (some ⟨h, 0, none⟩)]

set_option maxRecDepth 8000 in
theorem scr_act (form : ByteArray) (fn : Fn) (first cap : Array Value) (w : World) : Calls Tryz.prog 36 #[.string form, .func fn first cap] w fun e w' => e = .returned (.agg #[.string form, closV 84 w.heap.size]) ∧ Below w.heap.size w w' ∧ w'.cell? ⟨w.heap.size, 0, none⟩ = some (.func fn first cap) := by
  have hmf : ∀ (fn : Fn) (first cap : Array Value) (w : World), (Instr.makeFunc fn first cap).run Tryz.prog w = .ok (.func fn first cap) w := fun _ _ _ _ => rfl
  go_enter Tryz.func36, Tryz.ntmps36
  go_wp2_with fail
  have hr := RowAt.new (w.alloc (.cells #[.func fn first cap] 97)) 63 [.string form, closV 84 w.heap.size]
  rw [show (w.alloc (.cells #[.func fn first cap] 97)).heap.size = w.heap.size + 1 by simp] at hr
  (try simp only [Exit.inBlock, Exit.then])
  refine bodyPost_ret (v := .agg #[.string form, closV 84 w.heap.size]) (results_cell_row rfl _ _ (w.heap.size + 1) _ #[.string form, closV 84 w.heap.size] _ _ rfl hr Tryz.underlying63 rfl (by kernel_rfl)) rfl ⟨rfl, ?_, ?_⟩
  · exact ((Below.refl _ _).alloc (Nat.le_refl _) _).alloc (by simp) _
  · rw [Below.cell ((Below.refl _ _).alloc (Nat.le_refl _) _) (p := ⟨w.heap.size, 0, none⟩) (by simp)]
    unfold World.cell?
    rw [heap_alloc_new]; simp
set_option maxRecDepth 8000 in
theorem scr_tell (form : ByteArray) (fn : Fn) (first cap : Array Value) (w : World) : Calls Tryz.prog 46 #[.string form, .func fn first cap] w fun e w' => e = .returned (.agg #[.string form, closV 88 w.heap.size]) ∧ Below w.heap.size w w' ∧ w'.cell? ⟨w.heap.size, 0, none⟩ = some (.func fn first cap) := by
  have hmf : ∀ (fn : Fn) (first cap : Array Value) (w : World), (Instr.makeFunc fn first cap).run Tryz.prog w = .ok (.func fn first cap) w := fun _ _ _ _ => rfl
  go_enter Tryz.func46, Tryz.ntmps46
  go_wp2_with fail
  have hr := RowAt.new (w.alloc (.cells #[.func fn first cap] 105)) 63 [.string form, closV 88 w.heap.size]
  rw [show (w.alloc (.cells #[.func fn first cap] 105)).heap.size = w.heap.size + 1 by simp] at hr
  (try simp only [Exit.inBlock, Exit.then])
  refine bodyPost_ret (v := .agg #[.string form, closV 88 w.heap.size]) (results_cell_row rfl _ _ (w.heap.size + 1) _ #[.string form, closV 88 w.heap.size] _ _ rfl hr Tryz.underlying63 rfl (by kernel_rfl)) rfl ⟨rfl, ?_, ?_⟩
  · exact ((Below.refl _ _).alloc (Nat.le_refl _) _).alloc (by simp) _
  · rw [Below.cell ((Below.refl _ _).alloc (Nat.le_refl _) _) (p := ⟨w.heap.size, 0, none⟩) (by simp)]
    unfold World.cell?
    rw [heap_alloc_new]; simp

set_option maxRecDepth 8000 in
theorem scr_look (form : ByteArray) (fn : Fn) (first cap : Array Value) (w : World) : Calls Tryz.prog 54 #[.string form, .func fn first cap] w fun e w' => ∃ h, w.heap.size ≤ h ∧ e = .returned (.agg #[.string form, closV 88 h]) ∧ Below w.heap.size w w' ∧ w'.cell? ⟨h, 0, none⟩ = some (closV 93 w.heap.size) ∧ w'.cell? ⟨w.heap.size, 0, none⟩ = some (.func fn first cap) := by
  have hmf : ∀ (fn : Fn) (first cap : Array Value) (w : World), (Instr.makeFunc fn first cap).run Tryz.prog w = .ok (.func fn first cap) w := fun _ _ _ _ => rfl
  obtain ⟨wa, hwa⟩ : ∃ wa, w.alloc (.cells #[.func fn first cap] 109) = wa := ⟨_, rfl⟩
  have hza : wa.heap.size = w.heap.size + 1 := by rw [← hwa]; simp
  have ba : Below w.heap.size w wa := by rw [← hwa]; exact (Below.refl _ _).alloc (Nat.le_refl _) _
  have ca : wa.cell? ⟨w.heap.size, 0, none⟩ = some (.func fn first cap) := by
    rw [← hwa]; unfold World.cell?; rw [heap_alloc_new]; simp
  have ra := RowAt.new wa 63 [.string ⟨#[]⟩, .nilFunc]
  obtain ⟨wb, hwb⟩ : ∃ wb, wa.alloc (.cells #[.string ⟨#[]⟩, .nilFunc] 63) = wb := ⟨_, rfl⟩
  have bb : Below wa.heap.size wa wb := by rw [← hwb]; exact (Below.refl _ _).alloc (Nat.le_refl _) _
  have rb : RowAt (w.heap.size + 1) 63 [.string ⟨#[]⟩, .nilFunc] wb := by rw [← hza, ← hwb]; exact ra
  have HB := Lib.hid (And.intro ba (And.intro bb (And.intro ca rb)))
  clear ba bb ca ra rb
  go_enter Tryz.func54, Tryz.ntmps54
  go_wp2_with fail
  refine (scr_tell _ _ _ _ _).mono ?_
  rintro e w3 ⟨rfl, hb3, hc3⟩
  have r3 := HB.out.2.2.2.below hb3 HB.out.2.2.2.lt
  have c0 := r3.cell 0; have c1 := r3.cell 1; have f0 := r3.frozen 0; have f1 := r3.frozen 1
  simp only [List.getElem?_cons_zero, List.getElem?_cons_succ] at c0 c1
  have hzb := HB.out.2.1.size
  have hzr := HB.out.2.2.2.lt
  have H3 := Lib.hid (And.intro (btrans (btrans HB.out.1 HB.out.2.1) hb3) (And.intro hc3 (And.intro r3 (show w3.cell? ⟨w.heap.size, 0, none⟩ = some (.func fn first cap) by
    rw [hb3.cell (p := ⟨w.heap.size, 0, none⟩) (by show w.heap.size < _; omega), HB.out.2.1.cell (p := ⟨w.heap.size, 0, none⟩) (by show w.heap.size < _; omega)]
    exact HB.out.2.2.1))))
  clear r3 hb3 hc3
  generalize wb.heap.size = hh at *
  unfold closV
  go_wp2_with fail
  (try simp only [Exit.inBlock, Exit.then])
  refine bodyPost_ret (v := .agg #[.string form, closV 88 hh]) (results_cell_row rfl _ _ (w.heap.size + 1) _ #[.string form, closV 88 hh] _ _ rfl ((H3.out.2.2.1.set 0 _).set 1 _) Tryz.underlying63 rfl (by kernel_rfl)) rfl ⟨hh, by omega, rfl, ?_, ?_, ?_⟩
  · exact (H3.out.1.setCell (p := ⟨w.heap.size + 1, 0, none⟩) (Nat.le_succ _) _).setCell (p := ⟨w.heap.size + 1, 1, none⟩) (Nat.le_succ _) _
  · rw [(((Keep.refl (· = w.heap.size + 1) w3).put (o := 0) (.string form)).put (o := 1) (.func (.func 88) #[] #[.pointer (some ⟨hh, 0, none⟩)])).cell (p := ⟨hh, 0, none⟩) (World.block_lt_of_cell? w3 _ H3.out.2.1) (by show ¬ hh = _; omega)]
    exact H3.out.2.1
  · rw [(((Keep.refl (· = w.heap.size + 1) w3).put (o := 0) (.string form)).put (o := 1) (.func (.func 88) #[] #[.pointer (some ⟨hh, 0, none⟩)])).cell (p := ⟨w.heap.size, 0, none⟩) (World.block_lt_of_cell? w3 _ H3.out.2.2.2) (by show ¬ w.heap.size = _; omega)]
    exact H3.out.2.2.2
end Go.Proofs.YtajnfkmkombajabGreatDoor
namespace Go.Proofs.YtajnfkmkombajabGreatDoor
open Go.RowKit Go.Maps

/-- a function that has a body is entered -/
def Entered (f : Nat) : Prop := ∀ (args : Array Value) (w : World), (callFunc f args).run Tryz.prog w = .ok (.enter f args) w

section
variable (A : Nat → Addr) (f h : Nat) (p nv : Value) (w : World) (Q : World → Prop)
set_option maxRecDepth 8000 in
theorem scr_act1 (c : Nat) (he : Entered f) (hc : w.cell? ⟨h, 0, none⟩ = some (fnV f)) (HC : Calls Tryz.prog f #[p, nv] w fun e w' => e = .returned (ev A c) ∧ Q w') :
    Calls Tryz.prog 84 #[p, nv, .pointer (some ⟨h, 0, none⟩)] w fun e w' => e = .returned (.tuple #[.string okB, ev A c]) ∧ Q w' := by
  have H := Lib.hid HC; clear HC
  have he2 := he
  unfold Entered at he2
  unfold fnV at hc
  go_enter Tryz.func84, Tryz.ntmps84
  go_wp2_with fail
  refine H.out.mono ?_
  rintro e w1 ⟨rfl, hq⟩
  have HQ := Lib.hid hq; clear hq
  go_wp2_with fail
  go_ret2
  exact ⟨rfl, HQ.out⟩
set_option maxRecDepth 8000 in
theorem scr_tell1 (c : Nat) (k : Int) (hk : I64 k) (hL : ∀ w1, Q w1 → Lw A w1) (hQ : ∀ w1 w2, Q w1 → Below w1.heap.size w1 w2 → Q w2) (he : Entered f) (hc : w.cell? ⟨h, 0, none⟩ = some (fnV f)) (HC : Calls Tryz.prog f #[p, nv] w fun e w' => e = .returned (.tuple #[.int .i64 k, ev A c]) ∧ Q w') :
    Calls Tryz.prog 88 #[p, nv, .pointer (some ⟨h, 0, none⟩)] w fun e w' => e = .returned (.tuple #[.string (itoaB k), ev A c]) ∧ Q w' := by
  have H := Lib.hid HC; clear HC
  have he2 := he
  unfold Entered at he2
  unfold fnV at hc
  go_enter Tryz.func88, Tryz.ntmps88
  go_wp2_with fail
  refine H.out.mono ?_
  rintro e w1 ⟨rfl, hq⟩
  have HQ := Lib.hid hq; clear hq
  go_wp2_with fail
  refine (scr_Itoa A k hk w1 (hL w1 HQ.out)).mono ?_
  rintro e w2 ⟨rfl, hb⟩
  have HQ2 := Lib.hid (hQ _ _ HQ.out hb); clear hb
  go_wp2_with fail
  go_ret2
  exact ⟨rfl, HQ2.out⟩
set_option maxRecDepth 8000 in
theorem scr_look1 (k : Int) (he : Entered f) (hc : w.cell? ⟨h, 0, none⟩ = some (fnV f)) (HC : Calls Tryz.prog f #[p, nv] w fun e w' => e = .returned (.int .i64 k) ∧ Q w') :
    Calls Tryz.prog 93 #[p, nv, .pointer (some ⟨h, 0, none⟩)] w fun e w' => e = .returned (.tuple #[.int .i64 k, ev A 0]) ∧ Q w' := by
  have H := Lib.hid HC; clear HC
  have he2 := he
  unfold Entered at he2
  unfold fnV at hc
  go_enter Tryz.func93, Tryz.ntmps93
  go_wp2_with fail
  refine H.out.mono ?_
  rintro e w1 ⟨rfl, hq⟩
  have HQ := Lib.hid hq; clear hq
  go_wp2_with fail
  go_ret2
  exact ⟨rfl, HQ.out⟩
/-- tell round look round a text -/
theorem scr_look2 (h2 : Nat) (k : Int) (hk : I64 k) (hL : ∀ w1, Q w1 → Lw A w1) (hQ : ∀ w1 w2, Q w1 → Below w1.heap.size w1 w2 → Q w2) (he : Entered f) (hc : w.cell? ⟨h, 0, none⟩ = some (closV 93 h2)) (hc2 : w.cell? ⟨h2, 0, none⟩ = some (fnV f)) (HC : Calls Tryz.prog f #[p, nv] w fun e w' => e = .returned (.int .i64 k) ∧ Q w') :
    Calls Tryz.prog 88 #[p, nv, .pointer (some ⟨h, 0, none⟩)] w fun e w' => e = .returned (.tuple #[.string (itoaB k), ev A 0]) ∧ Q w' := by
  have H := Lib.hid (scr_look1 A f h2 p nv w Q k he hc2 HC); clear HC
  unfold closV at hc
  go_enter Tryz.func88, Tryz.ntmps88
  go_wp2_with fail
  refine H.out.mono ?_
  rintro e w1 ⟨rfl, hq⟩
  have HQ := Lib.hid hq; clear hq
  rw [ev_nil]
  go_wp2_with fail
  refine (scr_Itoa A k hk w1 (hL w1 HQ.out)).mono ?_
  rintro e w2 ⟨rfl, hb⟩
  have HQ2 := Lib.hid (hQ _ _ HQ.out hb); clear hb
  go_wp2_with fail
  go_ret2
  exact ⟨rfl, HQ2.out⟩
end
end Go.Proofs.YtajnfkmkombajabGreatDoor
namespace Go.Proofs.YtajnfkmkombajabGreatDoor
open Go Go.RowKit Go.Maps Go.WideElems Go.MapKept Go.ChangeMaps

/-- what lies at a key -/
def atStr (k : ByteArray) : List MapEntry → Option Value
  | [] => none
  | e :: es => match e.key with
    | .string s => if k == s then some e.val else atStr k es
    | _ => atStr k es
def StrKeysAll (es : List MapEntry) : Prop := ∀ e ∈ es, ∃ s, e.key = .string s
theorem findNow_str (k : ByteArray) : ∀ (es : List MapEntry) (i : Nat), StrKeysAll es → ∃ r, Instr.findNow .string (.string k) es i = some r ∧ r.map (·.2) = atStr k es
  | [], i, _ => ⟨none, rfl, rfl⟩
  | e :: es, i, h => by
    obtain ⟨s, hs⟩ := h e (by simp)
    obtain ⟨r, h1, h2⟩ := findNow_str k es (i + 1) (fun x hx => h x (List.mem_cons_of_mem _ hx))
    unfold Instr.findNow atStr
    rw [hs]
    simp only [Instr.sameNow]
    cases hk : (k == s) with
    | true => exact ⟨some (i, e.val), rfl, by simp⟩
    | false => exact ⟨r, h1, by simpa using h2⟩
theorem atStr_push (k s : ByteArray) (v : Value) (c : Nat) : ∀ (es : List MapEntry), StrKeysAll es → atStr k (es ++ [⟨.string s, v, c⟩]) = match atStr k es with
    | some x => some x
    | none => if k == s then some v else none
  | [], _ => by
    show atStr k [⟨.string s, v, c⟩] = _
    simp only [atStr]
  | e :: es, h => by
    obtain ⟨t, ht⟩ := h e (by simp)
    have ih := atStr_push k s v c es (fun x hx => h x (List.mem_cons_of_mem _ hx))
    show atStr k (e :: (es ++ _)) = _
    simp only [atStr, ht]
    cases hk : (k == t) with
    | true => simp
    | false => simpa using ih

section
variable {P : Program} {w : World} {t key elem : TypeId} {g clock : Nat} {es : Array MapEntry}
theorem run_lookup_str (ht : P.underlying t = some (.map key elem)) (hk : P.underlying key = some .string) (hg : w.heap[g]? = some (.map es clock)) (hs : StrKeysAll es.toList) {z : Value} (hz : (zeroValue elem).run P w = .ok z w) (k : ByteArray) :
    (Instr.lookup t (.map (some g)) (.string k) true).run P w = .ok (.tuple #[(atStr k es.toList).getD z, .bool (atStr k es.toList).isSome]) w := by
  obtain ⟨r, h1, h2⟩ := findNow_str k es.toList 0 hs
  have hck : ∀ b : Bool, (Instr.checkKey b 10000 key (.string k)).run P w = .ok () w := fun b => by
    unfold Instr.checkKey
    simp [run_underlying hk]
  have hf : (Instr.findKey key (.string k) es.toList).run P w = .ok r w := by
    unfold Instr.findKey
    simp [run_underlying hk, h1]
  cases r with
  | none =>
    have e : atStr k es.toList = none := by simpa using h2.symm
    rw [e]
    simp [Instr.lookup, run_underlying ht, MapKept.run_getObj_map hg, hck, hf, hz, Result.andThen]
  | some p =>
    have e : atStr k es.toList = some p.2 := by simpa using h2.symm
    rw [e]
    simp [Instr.lookup, run_underlying ht, MapKept.run_getObj_map hg, hck, hf, Result.andThen]
theorem run_insert_str (ht : P.underlying t = some (.map key elem)) (hk : P.underlying key = some .string) (hg : w.heap[g]? = some (.map es clock)) (hs : StrKeysAll es.toList) (k : ByteArray) (v : Value) (hn : atStr k es.toList = none) :
    (Instr.mapUpdate t (.map (some g)) (.string k) v).run P w = .ok () (setBlock w g (.map (es.push ⟨.string k, v, clock⟩) (clock + 1))) := by
  obtain ⟨r, h1, h2⟩ := findNow_str k es.toList 0 hs
  have hck : ∀ b : Bool, (Instr.checkKey b 10000 key (.string k)).run P w = .ok () w := fun b => by
    unfold Instr.checkKey
    simp [run_underlying hk]
  have hf : (Instr.findKey key (.string k) es.toList).run P w = .ok r w := by
    unfold Instr.findKey
    simp [run_underlying hk, h1]
  have hr : r = none := by
    rw [hn] at h2
    cases r with
    | none => rfl
    | some p => simp at h2
  subst hr
  simp [Instr.mapUpdate, run_underlying ht, MapKept.run_getObj_map hg, hck, hf, MapKept.run_setObj_map _ hg, Result.andThen, setBlock]
end
end Go.Proofs.YtajnfkmkombajabGreatDoor
namespace Go.Proofs.YtajnfkmkombajabGreatDoor
open Go Go.RowKit Go.Maps Go.ChangeMaps

/-- where command j's own text lies -/
def cmdFn : Nat → Nat
  | 0 => 37
  | 1 => 39
  | 2 => 40
  | 3 => 42
  | 4 => 44
  | 5 => 47
  | 6 => 49
  | 7 => 51
  | 8 => 55
  | 9 => 57
  | 10 => 59
  | 11 => 61
  | 12 => 63
  | 13 => 65
  | _ => 67
/-- what command j does, as a function value of the world w -/
def CmdFv (w : World) (j : Nat) (fv : Value) : Prop :=
  if j < 5 then ∃ h, fv = closV 84 h ∧ w.cell? ⟨h, 0, none⟩ = some (fnV (cmdFn j))
  else if j < 7 then ∃ h, fv = closV 88 h ∧ w.cell? ⟨h, 0, none⟩ = some (fnV (cmdFn j))
  else if 8 ≤ j ∧ j < 14 then ∃ h k, fv = closV 88 h ∧ w.cell? ⟨h, 0, none⟩ = some (closV 93 k) ∧ w.cell? ⟨k, 0, none⟩ = some (fnV (cmdFn j))
  else fv = fnV (cmdFn j)
theorem CmdFv.mono {w w' : World} {j : Nat} {fv : Value} (h : CmdFv w j fv) (k : ∀ (b : Nat) v, w.cell? ⟨b, 0, none⟩ = some v → w'.cell? ⟨b, 0, none⟩ = some v) : CmdFv w' j fv := by
  unfold CmdFv at h ⊢
  split at h
  · next hj => rw [if_pos hj]; obtain ⟨b, h1, h2⟩ := h; exact ⟨b, h1, k _ _ h2⟩
  · next hj =>
    rw [if_neg hj]
    split at h
    · next hj => rw [if_pos hj]; obtain ⟨b, h1, h2⟩ := h; exact ⟨b, h1, k _ _ h2⟩
    · next hj =>
      rw [if_neg hj]
      split at h
      · next hj => rw [if_pos hj]; obtain ⟨b, c, h1, h2, h3⟩ := h; exact ⟨b, c, h1, k _ _ h2, k _ _ h3⟩
      · next hj => rw [if_neg hj]; exact h
/-- command j as it lies in the map -/
def CmdV (w : World) (j : Nat) (v : Value) : Prop := ∃ fv, v = .agg #[.string (bstr (cmdForm j)), fv] ∧ CmdFv w j fv
def cmdWord (j : Nat) : List UInt8 := cmdWords.getD j []
/-- since W: the map's block g holds the first i commands -/
structure CmdsAt (W : World) (g i : Nat) (w : World) : Prop where
  below : Below W.heap.size W w
  gnew : W.heap.size ≤ g
  map : ∃ es clock, w.heap[g]? = some (.map es clock) ∧ StrKeysAll es.toList ∧ (∀ j, j < i → ∃ v, atStr (bstr (cmdWord j)) es.toList = some v ∧ CmdV w j v) ∧ ∀ k, (∀ j, j < i → k ≠ bstr (cmdWord j)) → atStr k es.toList = none
theorem CmdsAt.next {W w w' : World} {g i : Nat} (h : CmdsAt W g i w) (k : Below w.heap.size w w') : CmdsAt W g i w' := by
  obtain ⟨es, clock, h1, h2, h3, h4⟩ := h.map
  refine ⟨btrans h.below k, h.gnew, es, clock, below_heap k h1 (lt_of_block h1), h2, fun j hj => ?_, h4⟩
  obtain ⟨v, a1, fv, a2, a3⟩ := h3 j hj
  exact ⟨v, a1, fv, a2, a3.mono fun b v hv => by rw [k.cell (World.block_lt_of_cell? w _ hv)]; exact hv⟩
theorem cmdWords_apart : ∀ i, i < 15 → ∀ j, j < i → cmdWord i ≠ cmdWord j := by decide
theorem bstr_inj {a b : List UInt8} (h : bstr a = bstr b) : a = b := by
  have := congrArg (fun x : ByteArray => x.data.toList) h
  simpa [bstr] using this
theorem CmdsAt.new (W : World) : CmdsAt W W.heap.size 0 (W.alloc (.map #[] 0)) :=
  ⟨(Below.refl _ _).alloc (Nat.le_refl _) _, Nat.le_refl _, #[], 0, heap_alloc_new _ _, (fun e he => by simp at he), (fun j hj => by omega), fun k _ => rfl⟩
theorem CmdsAt.step {W w : World} {g i : Nat} {k : ByteArray} {v : Value} (h : CmdsAt W g i w) (hi : i < 15) (hk : k = bstr (cmdWord i)) (hv : CmdV w i v) :
    ∃ w2, (Instr.mapUpdate 65 (.map (some g)) (.string k) v).run Tryz.prog w = .ok () w2 ∧ CmdsAt W g (i + 1) w2 := by
  obtain ⟨es, clock, h1, h2, h3, h4⟩ := h.map
  have hg := lt_of_block h1
  have hne : atStr k es.toList = none := h4 k (fun j hj e => cmdWords_apart i hi j hj (bstr_inj (hk.symm.trans e)))
  refine ⟨_, run_insert_str Tryz.underlying65 Tryz.underlying9 h1 h2 k v hne, ?_⟩
  have hcell : ∀ (b : Nat) u, w.cell? ⟨b, 0, none⟩ = some u → (setBlock w g (.map (es.push ⟨.string k, v, clock⟩) (clock + 1))).cell? ⟨b, 0, none⟩ = some u := fun b u hu => by
    have hb : b ≠ g := fun e => by subst e; unfold World.cell? at hu; rw [h1] at hu; simp at hu
    rw [show (setBlock w g (.map (es.push ⟨.string k, v, clock⟩) (clock + 1))).cell? ⟨b, 0, none⟩ = w.cell? ⟨b, 0, none⟩ from World.cell?_of_block (w := w) (by show (w.heap.setIfInBounds g _)[b]? = _; rw [Array.getElem?_setIfInBounds_ne (Ne.symm hb)])]
    exact hu
  refine ⟨⟨h.below.os, h.below.tape, h.below.output, by show _ ≤ (w.heap.setIfInBounds g _).size; rw [Array.size_setIfInBounds]; exact h.below.size, fun b hb => ?_⟩, h.gnew, es.push ⟨.string k, v, clock⟩, clock + 1, ?_, ?_, fun j hj => ?_, fun q hq => ?_⟩
  · have := h.gnew
    show (w.heap.setIfInBounds g _)[b]? = _
    rw [Array.getElem?_setIfInBounds_ne (by omega)]
    exact h.below.block b hb
  · show (w.heap.setIfInBounds g _)[g]? = _
    rw [Array.getElem?_setIfInBounds_self_of_lt hg]
  · intro e he
    rw [Array.toList_push] at he
    rcases List.mem_append.1 he with he | he
    · exact h2 e he
    · obtain rfl := List.mem_singleton.1 he; exact ⟨k, rfl⟩
  · rw [Array.toList_push, atStr_push _ _ _ _ _ h2]
    by_cases hji : j = i
    · subst hji
      rw [← hk, hne]
      exact ⟨v, by rw [(MapKept.bytes_beq _ _).2 rfl]; rfl, by obtain ⟨fv, a, b⟩ := hv; exact ⟨fv, a, b.mono hcell⟩⟩
    · obtain ⟨u, a1, fv, a2, a3⟩ := h3 j (by omega)
      rw [a1]
      exact ⟨u, rfl, fv, a2, a3.mono hcell⟩
  · rw [Array.toList_push, atStr_push _ _ _ _ _ h2, h4 q (fun j hj => hq j (by omega))]
    have : (q == k) = false := by
      cases hb : (q == k) with
      | false => rfl
      | true => exact absurd ((MapKept.bytes_beq q k).1 hb) (by rw [hk]; exact hq i (by omega))
    rw [this]; rfl

set_option maxRecDepth 8000 in
set_option maxHeartbeats 1000000 in
theorem scr_commands (w : World) : Calls Tryz.prog 22 #[] w fun e w' => ∃ g, e = .returned (.map (some g)) ∧ CmdsAt w g 15 w' := by
  have hmk : ∀ w : World, (Instr.makeMap 65 none).run Tryz.prog w = .ok (.map (some w.heap.size)) (w.alloc (.map #[] 0)) := fun _ => rfl
  have H0 := Lib.hid (CmdsAt.new w)
  obtain ⟨w0, hw0⟩ : ∃ w0, w.alloc (.map #[] 0) = w0 := ⟨_, rfl⟩
  rw [hw0] at H0
  obtain ⟨g, hg⟩ : ∃ g, w.heap.size = g := ⟨_, rfl⟩
  rw [hg] at H0
  go_enter Tryz.func22, Tryz.ntmps22
  go_wp2_with fail
  refine (scr_act _ _ _ _ _).mono ?_
  rintro e v0 ⟨rfl, kb, kc⟩
  obtain ⟨w1, hup, hn⟩ := (H0.out.next kb).step (k := ⟨#[112, 97, 121]⟩) (v := .agg #[.string ⟨#[100, 100, 110]⟩, closV 84 _]) (by decide) rfl ⟨_, rfl, ⟨_, rfl, kc⟩⟩
  have H1 := Lib.hid hn
  have U1 := hup; clear hn hup kb kc
  go_wp2_with fail
  refine (scr_act _ _ _ _ _).mono ?_
  rintro e v1 ⟨rfl, kb, kc⟩
  obtain ⟨w2, hup, hn⟩ := (H1.out.next kb).step (k := ⟨#[115, 116, 97, 107, 101]⟩) (v := .agg #[.string ⟨#[100, 100, 110]⟩, closV 84 _]) (by decide) rfl ⟨_, rfl, ⟨_, rfl, kc⟩⟩
  have H2 := Lib.hid hn
  have U2 := hup; clear hn hup kb kc
  go_wp2_with fail
  refine (scr_act _ _ _ _ _).mono ?_
  rintro e v2 ⟨rfl, kb, kc⟩
  obtain ⟨w3, hup, hn⟩ := (H2.out.next kb).step (k := ⟨#[117, 110, 115, 116, 97, 107, 101]⟩) (v := .agg #[.string ⟨#[100, 100, 110]⟩, closV 84 _]) (by decide) rfl ⟨_, rfl, ⟨_, rfl, kc⟩⟩
  have H3 := Lib.hid hn
  have U3 := hup; clear hn hup kb kc
  go_wp2_with fail
  refine (scr_act _ _ _ _ _).mono ?_
  rintro e v3 ⟨rfl, kb, kc⟩
  obtain ⟨w4, hup, hn⟩ := (H3.out.next kb).step (k := ⟨#[97, 99, 99, 117, 115, 101]⟩) (v := .agg #[.string ⟨#[100, 100, 110, 110]⟩, closV 84 _]) (by decide) rfl ⟨_, rfl, ⟨_, rfl, kc⟩⟩
  have H4 := Lib.hid hn
  have U4 := hup; clear hn hup kb kc
  go_wp2_with fail
  refine (scr_act _ _ _ _ _).mono ?_
  rintro e v4 ⟨rfl, kb, kc⟩
  obtain ⟨w5, hup, hn⟩ := (H4.out.next kb).step (k := ⟨#[99, 121, 99, 108, 101]⟩) (v := .agg #[.string ⟨#[]⟩, closV 84 _]) (by decide) rfl ⟨_, rfl, ⟨_, rfl, kc⟩⟩
  have H5 := Lib.hid hn
  have U5 := hup; clear hn hup kb kc
  go_wp2_with fail
  refine (scr_tell _ _ _ _ _).mono ?_
  rintro e v5 ⟨rfl, kb, kc⟩
  obtain ⟨w6, hup, hn⟩ := (H5.out.next kb).step (k := ⟨#[102, 114, 101, 101]⟩) (v := .agg #[.string ⟨#[100]⟩, closV 88 _]) (by decide) rfl ⟨_, rfl, ⟨_, rfl, kc⟩⟩
  have H6 := Lib.hid hn
  have U6 := hup; clear hn hup kb kc
  go_wp2_with fail
  refine (scr_tell _ _ _ _ _).mono ?_
  rintro e v6 ⟨rfl, kb, kc⟩
  obtain ⟨w7, hup, hn⟩ := (H6.out.next kb).step (k := ⟨#[116, 117, 114, 110]⟩) (v := .agg #[.string ⟨#[100]⟩, closV 88 _]) (by decide) rfl ⟨_, rfl, ⟨_, rfl, kc⟩⟩
  have H7 := Lib.hid hn
  have U7 := hup; clear hn hup kb kc
  obtain ⟨w8, hup, hn⟩ := H7.out.step (k := ⟨#[98, 97, 107, 101]⟩) (v := .agg #[.string ⟨#[100]⟩, fnV 51]) (by decide) rfl ⟨_, rfl, rfl⟩
  have H8 := Lib.hid hn
  have U8 := hup; unfold fnV at U8; clear hn hup
  go_wp2_with fail
  refine (scr_look _ _ _ _ _).mono ?_
  rintro e v8 ⟨hh8, -, rfl, kb, kc, kd⟩
  obtain ⟨w9, hup, hn⟩ := (H8.out.next kb).step (k := ⟨#[104, 97, 115]⟩) (v := .agg #[.string ⟨#[100]⟩, closV 88 hh8]) (by decide) rfl ⟨_, rfl, ⟨_, _, rfl, kc, kd⟩⟩
  have H9 := Lib.hid hn
  have U9 := hup; clear hn hup kb kc kd
  go_wp2_with fail
  refine (scr_look _ _ _ _ _).mono ?_
  rintro e v9 ⟨hh9, -, rfl, kb, kc, kd⟩
  obtain ⟨w10, hup, hn⟩ := (H9.out.next kb).step (k := ⟨#[115, 116, 97, 107, 101, 100]⟩) (v := .agg #[.string ⟨#[100]⟩, closV 88 hh9]) (by decide) rfl ⟨_, rfl, ⟨_, _, rfl, kc, kd⟩⟩
  have H10 := Lib.hid hn
  have U10 := hup; clear hn hup kb kc kd
  go_wp2_with fail
  refine (scr_look _ _ _ _ _).mono ?_
  rintro e v10 ⟨hh10, -, rfl, kb, kc, kd⟩
  obtain ⟨w11, hup, hn⟩ := (H10.out.next kb).step (k := ⟨#[118, 97, 108, 117, 101]⟩) (v := .agg #[.string ⟨#[100, 100]⟩, closV 88 hh10]) (by decide) rfl ⟨_, rfl, ⟨_, _, rfl, kc, kd⟩⟩
  have H11 := Lib.hid hn
  have U11 := hup; clear hn hup kb kc kd
  go_wp2_with fail
  refine (scr_look _ _ _ _ _).mono ?_
  rintro e v11 ⟨hh11, -, rfl, kb, kc, kd⟩
  obtain ⟨w12, hup, hn⟩ := (H11.out.next kb).step (k := ⟨#[119, 97, 105, 116, 115]⟩) (v := .agg #[.string ⟨#[100, 100, 110]⟩, closV 88 hh11]) (by decide) rfl ⟨_, rfl, ⟨_, _, rfl, kc, kd⟩⟩
  have H12 := Lib.hid hn
  have U12 := hup; clear hn hup kb kc kd
  go_wp2_with fail
  refine (scr_look _ _ _ _ _).mono ?_
  rintro e v12 ⟨hh12, -, rfl, kb, kc, kd⟩
  obtain ⟨w13, hup, hn⟩ := (H12.out.next kb).step (k := ⟨#[115, 117, 112, 112, 108, 121]⟩) (v := .agg #[.string ⟨#[]⟩, closV 88 hh12]) (by decide) rfl ⟨_, rfl, ⟨_, _, rfl, kc, kd⟩⟩
  have H13 := Lib.hid hn
  have U13 := hup; clear hn hup kb kc kd
  go_wp2_with fail
  refine (scr_look _ _ _ _ _).mono ?_
  rintro e v13 ⟨hh13, -, rfl, kb, kc, kd⟩
  obtain ⟨w14, hup, hn⟩ := (H13.out.next kb).step (k := ⟨#[98, 111, 110, 117, 115]⟩) (v := .agg #[.string ⟨#[]⟩, closV 88 hh13]) (by decide) rfl ⟨_, rfl, ⟨_, _, rfl, kc, kd⟩⟩
  have H14 := Lib.hid hn
  have U14 := hup; clear hn hup kb kc kd
  obtain ⟨w15, hup, hn⟩ := H14.out.step (k := ⟨#[97, 116]⟩) (v := .agg #[.string ⟨#[]⟩, fnV 67]) (by decide) rfl ⟨_, rfl, rfl⟩
  have H15 := Lib.hid hn
  have U15 := hup; unfold fnV at U15; clear hn hup
  go_wp2_with fail
  go_ret
  exact ⟨g, rfl, H15.out⟩
end Go.Proofs.YtajnfkmkombajabGreatDoor
