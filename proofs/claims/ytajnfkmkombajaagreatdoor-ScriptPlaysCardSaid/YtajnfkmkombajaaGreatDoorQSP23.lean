/-
  Scripts: a cycle to its end; a block by its turn; where a chain stands.
  Plain: the document's pool reckons the same. No program in sight.
  Contracts of the document's purse.
  Plain: the document's product, bit by bit. No program in sight.
  Contracts of the document's Product, DownOf, UpOf.
-/
import Derived.Test.YtajnfkmkombajaaGreatDoorQSP22
import Derived.Deep.LoopGhost
import Derived.Test.YtajnfkmkombajaaGreatDoorQSP01
import Derived.Laws.Concat
import Derived.Test.YtajnfkmkombajaaGreatDoorQSP03
import Derived.Test.YtajnfkmkombajaaGreatDoorQSP14
import Derived.Test.YtajnfkmkombajaaGreatDoorQSP16
import Derived.Test.YtajnfkmkombajaaGreatDoorQSP02
import Derived.Deep.RegionWith
set_option linter.unusedVariables false
set_option linter.unusedSimpArgs false
set_option linter.unusedVariables false
namespace Go.Proofs.YtajnfkmkombajaaGreatDoor
open Go.RowKit Go.Maps
structure CycAt (x : CS) (sd g : Nat) (y : CS) : Prop where
 inv : y.Inv
 w : y.s.W.length = x.s.W.length
 k : y.k.L.length = x.k.L.length
 le : g ≤ 4
 eq : x.cycleOp sd = CS.cycleN sd g y
 at_ : (g = 0 ∧ y.cycle = x.cycle + 1) ∨ (g = y.left ∧ y.cycle = x.cycle)
theorem CycAt.start {x : CS} (h : x.Inv) (sd : Nat) : CycAt x sd x.left x := ⟨h, rfl, rfl, (CS.left_bd h).2, rfl, .inr ⟨rfl, rfl⟩⟩
theorem CycAt.next {x y : CS} {sd m : Nat} (h : CycAt x sd (m + 1) y) (hc : y.turnC 0 = 0) : CycAt x sd m (y.btS sd 0) := by
 obtain ⟨k1, k2, k3, k4⟩ := CS.bt_keeps h.inv sd 0
 obtain ⟨b1, b2, b3⟩ := CS.bt_step h.inv sd hc
 have ha := h.at_.resolve_left (fun e => by omega)
 obtain ⟨n1, n2⟩ := CS.left_next h.inv ha.1.symm b1
 have he : CS.cycleN sd (m + 1) y = CS.cycleN sd m (y.btS sd 0) := by
   show (if y.turnC 0 ≠ 0 then _ else _) = _
   rw [if_neg (by simp [hc])]
 refine ⟨k1, by rw [k2, h.w], by rw [k3, h.k], by have := h.le; omega, h.eq.trans he, ?_⟩
 by_cases h0 : m = 0
 · exact .inl ⟨h0, by rw [b2 (n1.2 h0), ha.2]⟩
 · exact .inr ⟨(n2 h0).symm, by rw [b3 (fun e => h0 (n1.1 e)), ha.2]⟩
theorem Left.start {w : World} {cb n m sd : Nat} {K : ChL} {x : CS} (g : ChGo w (K.foot cb) cb K n sd x w) (h : n ≤ m) : Left w (K.foot cb) cb sd m x w := ⟨K, n, h, g⟩
set_option maxRecDepth 8000 in
set_option maxHeartbeats 1000000 in
theorem scr_cycle (A : Nat → Addr) (W : World) (cb : Nat) (K : ChL) (n sd : Nat) (x : CS) (pb : Nat) (w : World) (h : CmdIn A W cb K n sd x pb w) :
   Calls Tryz.prog 98 #[.pointer (some ⟨pb, 0, none⟩)] w fun e w' => e = .returned (ev A (x.cycleOp sd).1) ∧ Left w (K.foot cb) cb sd (n + 6 + x.s.W.length) (x.cycleOp sd).2 w' := by
 have m2 : (2 : Nat) ∈ [1, 2, 3, 4, 5, 6, 7, 8, 9, 10] := by decide
 have m3 : (3 : Nat) ∈ [1, 2, 3, 4, 5, 6, 7, 8, 9, 10] := by decide
 have m4 : (4 : Nat) ∈ [1, 2, 3, 4, 5, 6, 7, 8, 9, 10] := by decide
 have m6 : (6 : Nat) ∈ [1, 2, 3, 4, 5, 6, 7, 8, 9, 10] := by decide
 have m9 : (9 : Nat) ∈ [1, 2, 3, 4, 5, 6, 7, 8, 9, 10] := by decide
 have H := Lib.hid h
 have p0 := h.p0
 have HE := Lib.hid h.errs
 have HS := h.sd
 have hW := h.w8; have hn := h.n9; have hk := h.k9
 have HC := Lib.hid (CycAt.start h.inv sd)
 have hlb := CS.left_bd h.inv
 have HKP := Lib.hid (fun w2 (q : Keep (K.foot cb) w w2) => show w2.cell? ⟨pb, 0, none⟩ = some (.pointer (some ⟨cb, 0, none⟩)) from by rw [q.cell (p := ⟨pb, 0, none⟩) (World.block_lt_of_cell? w _ p0) h.pf]; exact p0)
 clear h
 go_enter Tryz.func98, Tryz.ntmps98
 go_wp2_with fail
 refine (chain_Cycle H.out.cn.go).mono ?_
 rintro e w1 ⟨rfl, rfl⟩
 go_wp2_with fail
 have HL4 := Lib.hid hlb.2
 go_loopg [6] x.left (fun g (v : Value) wr => ∃ (K' : ChL) (n' : Nat) (y : CS), n' + g ≤ n + 4 ∧ ChGo w (K.foot cb) cb K' n' sd y wr ∧ CycAt x sd g y)
 case atStart => exact ⟨K, n, x, by have := HL4.out; omega, H.out.cn.go, HC.out⟩
 case round =>
   clear HC p0
   obtain ⟨K1, n1, y, hn1, g1, hc⟩ := hrel
   have H1 := Lib.hid g1; have HC := Lib.hid hc
   have p0 := HKP.out _ g1.keep
   clear g1 hc
   have hyW := HC.out.w; have hyk := HC.out.k
   have HN1 := Lib.hid hn1; clear hn1 hlb
   cases gk with
   | zero =>
     have hcy := (HC.out.at_.resolve_right (fun e => by have := (CS.left_bd HC.out.inv).1; omega)).2
     have t1 : (y.cycle == x.cycle) = false := by rw [beq_eq_false_iff_ne]; omega
     have HEQ := Lib.hid HC.out.eq
     clear hcy
     go_wp2_with fail
     refine (chain_Cycle H1.out).mono ?_
     rintro e w2 ⟨rfl, rfl⟩
     go_wp2_with fail
     go_ret
     exact ⟨by rw [HEQ.out]; rfl, by rw [HEQ.out]; exact ⟨K1, n1, by have := HN1.out; omega, H1.out⟩⟩
   | succ m =>
     have hcy := (HC.out.at_.resolve_left (fun e => by omega)).2
     have t1 : (y.cycle == x.cycle) = true := by rw [hcy]; exact beq_self_eq_true _
     have HEQ := Lib.hid HC.out.eq
     clear hcy
     have HB := Lib.hid (fun wx (g : ChGo w (K.foot cb) cb K1 n1 sd y wx) => play_Bake A [1, 2, 3, 4, 5, 6, 7, 8, 9, 10] w (K.foot cb) cb K1 n1 sd y wx 0 g HC.out.inv HS HE.out.1 HE.out.2 m2 m3 m4 m6 m9 (by omega) (by have := HN1.out; omega) (by omega))
     by_cases hc0 : y.turnC 0 = 0
     · have HN := Lib.hid (HC.out.next hc0)
       rw [hc0] at HB
       simp only [ev_nil] at HB
       clear hc0 hyW hyk
       generalize y.btS sd 0 = z at *
       generalize y.btV sd 0 = v1 at *
       generalize y.btN sd 0 = v2 at *
       go_wp2_with fail
       refine (chain_Cycle H1.out).mono ?_
       rintro e w2 ⟨rfl, rfl⟩
       go_wp2_with fail
       refine (HB.out _ H1.out).mono ?_
       rintro e w3 ⟨rfl, K2, g2⟩
       have H2 := Lib.hid g2; clear g2
       go_wp2_with fail
       go_roundg m
       case measure => omega
       case rel => exact ⟨K2, n1 + 1, z, by have := HN1.out; omega, H2.out, HN.out⟩
     · have hr : CS.cycleN sd (m + 1) y = (y.turnC 0, y) := by
         show (if y.turnC 0 ≠ 0 then _ else _) = _
         rw [if_pos hc0]
       have hs : y.btS sd 0 = y := if_neg hc0
       rw [hr] at HEQ
       rw [hs] at HB
       have hev := ev_some A hc0
       rw [hev] at HB
       have HEV := Lib.hid hev
       clear hr hs hc0 hev hyW hyk
       generalize y.btV sd 0 = v1 at *
       generalize y.btN sd 0 = v2 at *
       go_wp2_with fail
       refine (chain_Cycle H1.out).mono ?_
       rintro e w2 ⟨rfl, rfl⟩
       go_wp2_with fail
       refine (HB.out _ H1.out).mono ?_
       rintro e w3 ⟨rfl, K2, g2⟩
       have H2 := Lib.hid g2; clear g2
       go_wp2_with fail
       go_ret
       exact ⟨by rw [HEQ.out, HEV.out]; rfl, by rw [HEQ.out]; exact ⟨K2, n1 + 1, by have := HN1.out; omega, H2.out⟩⟩
section
variable (A : Nat → Addr) (W : World) (cb : Nat) (K : ChL) (n sd : Nat) (x : CS) (pb : Nat) (w : World)
set_option maxRecDepth 8000 in
theorem scr_cmd4 (nv : Value) (ns : List Int) (h : CmdIn A W cb K n sd x pb w) :
   Calls Tryz.prog 97 #[.pointer (some ⟨pb, 0, none⟩), nv] w fun e w' => e = .returned (ev A (x.cmdOp sd 4 ns).2.1) ∧ Left w (K.foot cb) cb sd (n + 6 + x.s.W.length) (x.cmdOp sd 4 ns).2.2 w' := by
 have H := Lib.hid (scr_cycle A W cb K n sd x pb w h)
 clear h
 go_enter Tryz.func97, Tryz.ntmps97
 go_wp2_with fail
 refine H.out.mono ?_
 rintro e w2 ⟨rfl, hl⟩
 have HL := Lib.hid hl; clear hl
 go_wp2_with fail
 go_ret
 exact ⟨rfl, HL.out⟩
theorem itoaB_size {v : Int} (h : I64 v) : (itoaB v).size ≤ 21 := by
 have := itoa_len21 v h.1 h.2
 simpa [itoaB, ByteArray.size] using this
set_option maxRecDepth 8000 in
set_option maxHeartbeats 1000000 in
theorem scr_cmd7 (ao : Option Addr) (cap : Nat) (ns : List Int) (h : CmdIn A W cb K n sd x pb w) (R : RdI .i64 w ao 1 cap ns) (hb : ∀ a, ao = some a → ¬ K.foot cb a.block) (hv1 : I64 (x.btV sd (ns.getD 0 0))) (hv2 : I64 (x.btN sd (ns.getD 0 0))) :
   Calls Tryz.prog 104 #[.pointer (some ⟨pb, 0, none⟩), .slice ao 1 cap] w fun e w' => e = .returned (.tuple #[.string (x.cmdOp sd 7 ns).1, ev A (x.cmdOp sd 7 ns).2.1]) ∧ Left w (K.foot cb) cb sd (n + 6 + x.s.W.length) (x.cmdOp sd 7 ns).2.2 w' := by
 have m2 : (2 : Nat) ∈ [1, 2, 3, 4, 5, 6, 7, 8, 9, 10] := by decide
 have m3 : (3 : Nat) ∈ [1, 2, 3, 4, 5, 6, 7, 8, 9, 10] := by decide
 have m4 : (4 : Nat) ∈ [1, 2, 3, 4, 5, 6, 7, 8, 9, 10] := by decide
 have m6 : (6 : Nat) ∈ [1, 2, 3, 4, 5, 6, 7, 8, 9, 10] := by decide
 have m9 : (9 : Nat) ∈ [1, 2, 3, 4, 5, 6, 7, 8, 9, 10] := by decide
 obtain ⟨b, off, rfl, n0⟩ := R.cells 0 (by decide)
 rw [Nat.add_zero] at n0
 have hbn := hb _ rfl
 simp only at hbn
 have H := Lib.hid h
 have p0 := h.p0
 have HB := Lib.hid (play_Bake A [1, 2, 3, 4, 5, 6, 7, 8, 9, 10] _ (K.foot cb) cb K n sd x _ (ns.getD 0 0) (h.drewN 1).cn.go h.inv h.sd (h.drewN 1).errs.1 (h.drewN 1).errs.2 m2 m3 m4 m6 m9 h.w8 (by have := h.n9; omega) (by have := h.k9; omega))
 have HS0 := Lib.hid (fun j => show (w.drewN j).cell? ⟨pb, 0, none⟩ = some (.pointer (some ⟨cb, 0, none⟩)) ∧ (w.drewN j).cell? ⟨b, off, none⟩ = some (.int .i64 (ns.getD 0 0)) from ⟨p0, n0⟩)
 have HKP := Lib.hid (fun w2 (q : Keep (K.foot cb) (w.drewN 1) w2) => show w2.cell? ⟨pb, 0, none⟩ = some (.pointer (some ⟨cb, 0, none⟩)) ∧ w2.cell? ⟨b, off, none⟩ = some (.int .i64 (ns.getD 0 0)) from ⟨by rw [q.cell (p := ⟨pb, 0, none⟩) (World.block_lt_of_cell? (w.drewN 1) _ p0) h.pf]; exact p0, by rw [q.cell (p := ⟨b, off, none⟩) (World.block_lt_of_cell? (w.drewN 1) _ n0) hbn]; exact n0⟩)
 have HLK := Lib.hid (fun w2 (q : Below W.heap.size W w2) => h.lw.below q)
 have HCN := Lib.hid (fun w2 K2 m y (g : ChGo (w.drewN 1) (K.foot cb) cb K2 m sd y w2) => ((h.drewN 1).cn.of g).below)
 have hs1 := itoaB_size hv1; have hs2 := itoaB_size hv2
 have HI1 := Lib.hid hv1; have HI2 := Lib.hid hv2
 have HEQ := Lib.hid (show x.cmdOp sd 7 ns = (itoaB (x.btV sd (ns.getD 0 0)) ++ spB ++ itoaB (x.btN sd (ns.getD 0 0)), x.turnC (ns.getD 0 0), x.btS sd (ns.getD 0 0)) from rfl)
 rw [HEQ.out]
 clear h R hb hbn hv1 hv2
 generalize x.btS sd (ns.getD 0 0) = z at *
 generalize x.btV sd (ns.getD 0 0) = v1 at *
 generalize x.btN sd (ns.getD 0 0) = v2 at *
 have hq1 : ((itoaB v1).size : Int) ≤ 21 := by omega
 have hq2 : ((itoaB v2).size : Int) ≤ 21 := by omega
 have hsp : (⟨#[32]⟩ : ByteArray).size = 1 := rfl
 have ha1 : (itoaB v1 ++ (⟨#[32]⟩ : ByteArray)).size = (itoaB v1).size + 1 := by rw [ByteArray.size_append]; rfl
 have ha2 : ¬ (9223372036854775807 < (itoaB v1).size + (⟨#[32]⟩ : ByteArray).size) := by rw [hsp]; omega
 have ha3 : ¬ (9223372036854775807 < (itoaB v1 ++ (⟨#[32]⟩ : ByteArray)).size + (itoaB v2).size) := by rw [ha1]; omega
 go_enter Tryz.func104, Tryz.ntmps104
 go_wp2_with fail
 go_region_held3 (fun w' => w'.cell? ⟨pb, 0, none⟩ = some (.pointer (some ⟨cb, 0, none⟩)) ∧ w'.cell? ⟨b, off, none⟩ = some (.int .i64 (ns.getD 0 0))) (first | exact HSA.out | exact HS0.out _)
   ((go_at_call 105; refine HB.out.mono ?_; rintro y w2 ⟨rfl, K2, g⟩; have H1 := Lib.hid g; have HSA := Lib.hid (HKP.out _ g.keep)))
 all_goals
   clear ha1 hsp
   go_wp2_with fail
   refine (scr_Itoa A v1 HI1.out _ (HLK.out _ (HCN.out _ _ _ _ H1.out))).mono ?_
   rintro y w3 ⟨rfl, b3⟩
   have B3 := Lib.hid b3; clear b3
   go_wp2_with fail
   refine (scr_Itoa A v2 HI2.out _ (HLK.out _ (btrans (HCN.out _ _ _ _ H1.out) B3.out))).mono ?_
   rintro y w4 ⟨rfl, b4⟩
   have B4 := Lib.hid (btrans B3.out b4); clear b4
   go_wp2_with fail
   go_ret2
   exact ⟨rfl, H.out.left ((Below.refl _ _).drewN 1) (H1.out.below B4.out) (by omega)⟩
set_option maxRecDepth 8000 in
set_option maxHeartbeats 1000000 in
theorem scr_cmd14 (nv : Value) (ns : List Int) (h : CmdIn A W cb K n sd x pb w) :
   Calls Tryz.prog 120 #[.pointer (some ⟨pb, 0, none⟩), nv] w fun e w' => e = .returned (.tuple #[.string (x.cmdOp sd 14 ns).1, ev A (x.cmdOp sd 14 ns).2.1]) ∧ Left w (K.foot cb) cb sd (n + 6 + x.s.W.length) (x.cmdOp sd 14 ns).2.2 w' := by
 have H := Lib.hid h
 have p0 := h.p0
 have hv1 : I64 x.cycle := ⟨by have := h.inv.cy; omega, by have := h.cy; omega⟩
 have hv2 : I64 x.level := ⟨by have := h.inv.lv; omega, by have := h.lv; omega⟩
 have HSB := Lib.hid (fun wx (q : Below w.heap.size w wx) => show wx.cell? ⟨pb, 0, none⟩ = some (.pointer (some ⟨cb, 0, none⟩)) from (h.next q).p0)
 have QC := Lib.hid (fun wx (q : Below w.heap.size w wx) => chain_Cycle (h.next q).cn.go)
 have QL := Lib.hid (fun wx (q : Below w.heap.size w wx) => chain_Level (h.next q).cn.go)
 have QI1 := Lib.hid (fun wx (q : Below w.heap.size w wx) => scr_Itoa A x.cycle hv1 wx (h.next q).lib)
 have QI2 := Lib.hid (fun wx (q : Below w.heap.size w wx) => scr_Itoa A x.level hv2 wx (h.next q).lib)
 have HB1 := Lib.hid ((Below.refl w.heap.size w).drewN 1)
 have hs1 := itoaB_size hv1; have hs2 := itoaB_size hv2
 have HEQ := Lib.hid (show x.cmdOp sd 14 ns = (itoaB x.cycle ++ spB ++ itoaB x.level, 0, x) from rfl)
 rw [HEQ.out]
 clear h hv1 hv2 HEQ
 generalize hxc : x.cycle = v1 at *
 generalize hxl : x.level = v2 at *
 clear hxc hxl
 have hsp : (⟨#[32]⟩ : ByteArray).size = 1 := rfl
 have ha1 : (itoaB v1 ++ (⟨#[32]⟩ : ByteArray)).size = (itoaB v1).size + 1 := by rw [ByteArray.size_append]; rfl
 have ha2 : ¬ (9223372036854775807 < (itoaB v1).size + (⟨#[32]⟩ : ByteArray).size) := by rw [hsp]; omega
 have ha3 : ¬ (9223372036854775807 < (itoaB v1 ++ (⟨#[32]⟩ : ByteArray)).size + (itoaB v2).size) := by rw [ha1]; omega
 have hb2 : ¬ (9223372036854775807 < (itoaB v1).size + 1) := by omega
 have hb3 : ¬ (9223372036854775807 < (itoaB v1).size + 1 + (itoaB v2).size) := by omega
 have hb4 : (9223372036854775807 < (itoaB v1).size + 1) = False := eq_false hb2
 have hb5 : (9223372036854775807 < (itoaB v1).size + 1 + (itoaB v2).size) = False := eq_false hb3
 have hb6 : decide (9223372036854775807 < (itoaB v1).size + 1) = false := decide_eq_false hb2
 have hb7 : decide (9223372036854775807 < (itoaB v1).size + 1 + (itoaB v2).size) = false := decide_eq_false hb3
 clear ha1 hsp
 go_enter Tryz.func120, Tryz.ntmps120
 go_wp2_with fail
 go_region_held3 (fun w' => w'.cell? ⟨pb, 0, none⟩ = some (.pointer (some ⟨cb, 0, none⟩))) (first | exact HSB.out _ HB3.out | exact HSB.out _ HB2.out | exact HSB.out _ HB1.out | exact HSB.out _ ((Below.refl w.heap.size w).drewN _))
   (first
     | (go_at_call 121; refine (QC.out _ HB1.out).mono ?_; rintro y wa ⟨rfl, rfl⟩)
     | (go_at_call 106; refine (QI1.out _ HB1.out).mono ?_; rintro y wb ⟨rfl, b2⟩; have HB2 := Lib.hid (btrans HB1.out b2))
     | (go_at_call 122; refine (QL.out _ HB2.out).mono ?_; rintro y wc ⟨rfl, rfl⟩)
     | (go_at_call 106; refine (QI2.out _ HB2.out).mono ?_; rintro y wd ⟨rfl, b3⟩; have HB3 := Lib.hid (btrans HB2.out b3)))
 all_goals
   go_wp2_with fail
   go_ret2
   exact ⟨rfl, H.out.same HB3.out (by omega)⟩
end
end Go.Proofs.YtajnfkmkombajaaGreatDoor
namespace Go.Proofs.YtajnfkmkombajaaGreatDoor
open Go.RowKit
theorem slash_doc {t c : Int} (h0 : 0 ≤ t) (h1 : t ≤ 1125899906842624) (h2 : 0 ≤ c) (h3 : c ≤ 100) :
   t / 100 * c + t % 100 * c / 100 = t * c / 100 ∧ (0 ≤ t / 100 ∧ t / 100 ≤ 11258999068427) ∧ (0 ≤ t % 100 ∧ t % 100 ≤ 99) ∧ (0 ≤ t / 100 * c ∧ t / 100 * c ≤ 1125899906842700) ∧ (0 ≤ t % 100 * c ∧ t % 100 * c ≤ 9900) ∧ (0 ≤ t % 100 * c / 100 ∧ t % 100 * c / 100 ≤ 99) := by
 have e := Int.mul_ediv_add_emod t 100
 have e2 : t * c = t % 100 * c + 100 * (t / 100 * c) := by
   rw [← Int.mul_assoc, ← Int.add_mul]; congr 1; omega
 have b1 : 0 ≤ t % 100 ∧ t % 100 ≤ 99 := by omega
 have b0 : 0 ≤ t / 100 ∧ t / 100 ≤ 11258999068427 := by omega
 have m1 : 0 ≤ t / 100 * c := Int.mul_nonneg b0.1 h2
 have m2 : t / 100 * c ≤ t / 100 * 100 := Int.mul_le_mul_of_nonneg_left h3 b0.1
 have m3 : 0 ≤ t % 100 * c := Int.mul_nonneg b1.1 h2
 have m4 : t % 100 * c ≤ 99 * 100 := Int.mul_le_mul b1.2 h3 h2 (by omega)
 refine ⟨?_, b0, b1, ⟨m1, by omega⟩, ⟨m3, by omega⟩, by omega⟩
 rw [e2, Int.add_mul_ediv_left _ _ (by omega : (100 : Int) ≠ 0)]; omega
theorem join_no {q : QS} {o n : Int} (h : plookC o n ≠ 0) : q.joinOp o n = (2, q) := by unfold QS.joinOp; rw [if_pos h]
theorem join_gone {q : QS} {o n : Int} (h : plookC o n = 0) (h1 : 0 < q.all) (h2 : q.total = 0) : q.joinOp o n = (8, q) := by
 unfold QS.joinOp; rw [if_neg (by simp [h]), if_pos ⟨h1, h2⟩]
theorem join_over {q : QS} {o n : Int} (h : plookC o n = 0) (h1 : 0 < q.all) (h2 : q.total ≠ 0) (h3 : ¬ overOk n q.all q.total) : q.joinOp o n = (2, q) := by
 unfold QS.joinOp QS.joinC; rw [if_neg (by simp [h]), if_neg (fun k => h2 k.2), if_pos (by rw [if_pos h1, (over_no h3).1]; simp)]
theorem join_in {q : QS} {o n : Int} (h : plookC o n = 0) (h1 : 0 < q.all) (h2 : q.total ≠ 0) (h3 : overOk n q.all q.total) :
   q.joinOp o n = if ¬ (q.total + n ≤ 1125899906842624 ∧ q.all + n * q.all / q.total ≤ 1125899906842624) then (2, q) else if n * q.all / q.total = 0 then (7, q) else (0, q.change o (n * q.all / q.total) n) := by
 have e : q.joinS n = n * q.all / q.total := by unfold QS.joinS; rw [if_pos h1, (over_yes h3).2.1]
 unfold QS.joinOp QS.joinC; rw [if_neg (by simp [h]), if_neg (fun k => h2 k.2), if_neg (by rw [if_pos h1, (over_yes h3).1]; simp), e]
theorem join_first {q : QS} (hq : q.Ok) {o n : Int} (h : plookC o n = 0) (h1 : q.all = 0) : q.joinOp o n = (0, q.change o n n) := by
 obtain ⟨_, n0, n1⟩ := plookC_zero.1 h
 have e : q.joinS n = n := by unfold QS.joinS; rw [if_neg (by omega)]
 have ht := hq.nil h1
 unfold QS.joinOp QS.joinC; rw [if_neg (by simp [h]), if_neg (by omega), if_neg (by rw [if_neg (by omega)]; simp), e, if_neg (by simp; omega), if_neg (by omega)]
theorem take_no {q : QS} {o n : Int} (h : plookC o n ≠ 0) : q.takeOp o n = (2, q) := by unfold QS.takeOp; rw [if_pos h]
theorem take_short {q : QS} {o n : Int} (h : plookC o n = 0) (h1 : q.value o < n) : q.takeOp o n = (6, q) := by unfold QS.takeOp; rw [if_neg (by simp [h]), if_pos h1]
theorem take_all {q : QS} {o n : Int} (h : plookC o n = 0) (h1 : ¬ q.value o < n) (h2 : upN n q.all q.total = q.all ∧ n < q.total) : q.takeOp o n = (6, q) := by unfold QS.takeOp; rw [if_neg (by simp [h]), if_neg h1, if_pos h2]
theorem take_in {q : QS} {o n : Int} (h : plookC o n = 0) (h1 : ¬ q.value o < n) (h2 : ¬ (upN n q.all q.total = q.all ∧ n < q.total)) : q.takeOp o n = (0, q.change o (-upN n q.all q.total) (-n)) := by
 unfold QS.takeOp; rw [if_neg (by simp [h]), if_neg h1, if_neg h2]
theorem up_parts {a b c : Int} (h : upC a b c = 0) : overOk a b c ∧ upN a b c = a * b / c + (if a * b % c = 0 then 0 else 1) := by
 by_cases hu : upOk a b c
 · exact ⟨hu.1, (up_yes hu).2⟩
 · rw [(up_no hu).1] at h; cases h
end Go.Proofs.YtajnfkmkombajaaGreatDoor
namespace Go.Proofs.YtajnfkmkombajaaGreatDoor
open Go.RowKit
theorem refb_IsAmount (n : Int) (w : World) : Calls Tryz.prog 60 #[.int .i64 n] w fun e w' => e = .returned (.bool (amtB n)) ∧ w = w' := by
 by_cases h0 : n < 0
 · have H := Lib.hid (show amtB n = false by rw [amtB_false]; omega)
   go_enter Tryz.func60, Tryz.ntmps60
   go_wp2
   go_ret
   exact ⟨by rw [H.out]; rfl, rfl⟩
 · have h0' : 0 ≤ n := by omega
   have H := Lib.hid (show amtB n = decide (n ≤ 1125899906842624) by unfold amtB; simp [h0'])
   clear h0
   go_enter Tryz.func60, Tryz.ntmps60
   go_wp2
   go_ret
   exact ⟨by rw [H.out]; rfl, rfl⟩
theorem ref_IsOwner (o : Int) (w : World) : Calls Tryz.prog 44 #[.int .i64 o] w fun e w' => e = .returned (.bool (ownB o)) ∧ w = w' := by
 by_cases h0 : o < 0
 · have H := Lib.hid (show ownB o = false by rw [ownB_false]; omega)
   go_enter Tryz.func44, Tryz.ntmps44
   go_wp2
   go_ret
   exact ⟨by rw [H.out]; rfl, rfl⟩
 · have h0' : 0 ≤ o := by omega
   have H := Lib.hid (show ownB o = decide (o < 6) by unfold ownB; simp [h0'])
   clear h0
   go_enter Tryz.func44, Tryz.ntmps44
   go_wp2
   go_ret
   exact ⟨by rw [H.out]; rfl, rfl⟩
theorem refp_Error (p : Value) (o n : Int) (w : World) : Calls Tryz.prog 34 #[p, .int .i64 o, .int .i64 n] w fun e w' => e = .returned (.int .i64 (lookC o n)) ∧ w = w' := by
 have hcase : (ownB o = false ∧ lookC o n = 2) ∨ (ownB o = true ∧ amtB n = false ∧ lookC o n = 2) ∨ (ownB o = true ∧ amtB n = true ∧ lookC o n = 0) := by
   unfold lookC; cases ownB o <;> cases amtB n <;> simp
 rcases hcase with ⟨h1, h⟩ | ⟨h1, h2, h⟩ | ⟨h1, h2, h⟩
 all_goals
   have H := Lib.hid h; clear h
   go_enter Tryz.func34, Tryz.ntmps34
   go_wp2_with (first | (go_at_call 44; refine (ref_IsOwner _ _).mono ?_; rintro e w' ⟨rfl, rfl⟩) | (go_at_call 60; refine (refb_IsAmount _ _).mono ?_; rintro e w' ⟨rfl, rfl⟩))
   go_ret
   exact ⟨by rw [H.out]; rfl, rfl⟩
structure RPurseAt (b hb : Nat) (p : PS) (w : World) : Prop where
 ok : p.Ok
 row : RowAt b 71 [.slice (some ⟨hb, 0, none⟩) 6 6, .int .i64 p.supply] w
 has : RowAt hb 3 (p.has.map (Value.int .i64)) w
 ne : b ≠ hb
def Two (b hb : Nat) : Nat → Prop := fun k => k = b ∨ k = hb
theorem RPurseAt.keep {F : Nat → Prop} {b hb : Nat} {p : PS} {w w' : World} (h : RPurseAt b hb p w) (k : Keep F w w') (h1 : ¬ F b) (h2 : ¬ F hb) : RPurseAt b hb p w' := ⟨h.ok, h.row.keep k h1, h.has.keep k h2, h.ne⟩
theorem RPurseAt.drewN {b hb : Nat} {p : PS} {w : World} (h : RPurseAt b hb p w) (n : Nat) : RPurseAt b hb p (w.drewN n) := ⟨h.ok, h.row, h.has, h.ne⟩
theorem RPurseAt.c0 {b hb : Nat} {p : PS} {w : World} (h : RPurseAt b hb p w) : w.cell? ⟨b, 0, none⟩ = some (.slice (some ⟨hb, 0, none⟩) 6 6) := by rw [h.row.cell]; rfl
theorem RPurseAt.c1 {b hb : Nat} {p : PS} {w : World} (h : RPurseAt b hb p w) : w.cell? ⟨b, 1, none⟩ = some (.int .i64 p.supply) := by rw [h.row.cell]; rfl
theorem RPurseAt.hc {b hb : Nat} {p : PS} {w : World} (h : RPurseAt b hb p w) {k : Nat} (hk : k < 6) : w.cell? ⟨hb, k, none⟩ = some (.int .i64 (p.at k)) := by
 rw [h.has.cell, List.getElem?_map, List.getElem?_eq_getElem (by rw [h.ok.six]; exact hk)]
 simp [PS.at, h.ok.six, hk]
theorem RPurseAt.setHas {b hb : Nat} {p : PS} {w : World} (h : RPurseAt b hb p w) {k : Nat} (n : Int) (hok : (p.change k n).Ok) : RPurseAt b hb (p.change k n) (w.setCell ⟨hb, k, none⟩ (.int .i64 (p.at k + n))) := by
 refine ⟨hok, h.row.set_other (by simp only; exact fun e => h.ne e.symm) _, ?_, h.ne⟩
 have := h.has.set k (.int .i64 (p.at k + n))
 rw [← List.map_set] at this
 simpa [PS.change] using this
theorem RPurseAt.setSupply {b hb : Nat} {p : PS} {w : World} (h : RPurseAt b hb p w) (n : Int) (hok : (p.grow n).Ok) : RPurseAt b hb (p.grow n) (w.setCell ⟨b, 1, none⟩ (.int .i64 (p.supply + n))) :=
 ⟨hok, h.row.set 1 _, h.has.set_other (by simp only; exact fun e => h.ne e) _, h.ne⟩
def RPurseP (b hb : Nat) (p : PS) (w w' : World) : Prop := Keep (Two b hb) w w' ∧ RPurseAt b hb p w'
theorem RPurseP.refl {b hb : Nat} {p : PS} {w : World} (h : RPurseAt b hb p w) : RPurseP b hb p w w := ⟨Keep.refl _ _, h⟩
theorem refp_New (w : World) : Calls Tryz.prog 10 #[] w fun e w' => ∃ b hb, e = .returned (.pointer (some ⟨b, 0, none⟩)) ∧ Below w.heap.size w w' ∧ w.heap.size ≤ b ∧ w.heap.size ≤ hb ∧ RPurseAt b hb PS.new w' := by
 have hmk : ∀ w, (Instr.makeSlice 28 (.int .i64 6) (.int .i64 6)).run Tryz.prog w = .ok (.slice (some ⟨w.heap.size, 0, none⟩) 6 6) (w.alloc (.cells #[.int .i64 0, .int .i64 0, .int .i64 0, .int .i64 0, .int .i64 0, .int .i64 0] 3)) := fun _ => by kernel_rfl
 go_enter Tryz.func10, Tryz.ntmps10
 go_wp2
 go_ret
 refine ⟨w.heap.size + 1, w.heap.size, rfl, ((Below.refl _ _).alloc (Nat.le_refl _) _).alloc (by simp) _, by omega, Nat.le_refl _, PS.new_ok, ?_, ?_, by omega⟩
 · have := RowAt.new (w.alloc (.cells #[.int .i64 0, .int .i64 0, .int .i64 0, .int .i64 0, .int .i64 0, .int .i64 0] 3)) 71 [.slice (some ⟨w.heap.size, 0, none⟩) 6 6, .int .i64 0]
   have hs : (w.alloc (.cells #[.int .i64 0, .int .i64 0, .int .i64 0, .int .i64 0, .int .i64 0, .int .i64 0] 3)).heap.size = w.heap.size + 1 := by simp
   rw [hs] at this
   exact this
 · exact (RowAt.new w 3 [.int .i64 0, .int .i64 0, .int .i64 0, .int .i64 0, .int .i64 0, .int .i64 0]).alloc _
theorem refp_Sum (b hb : Nat) (p : PS) (w : World) (h : RPurseAt b hb p w) :
   Calls Tryz.prog 64 #[.pointer (some ⟨b, 0, none⟩)] w fun e w' => e = .returned (.int .i64 p.sum) ∧ w = w' := by
 have c0 := h.c0
 have H := Lib.hid h; clear h
 have hS := Lib.hid (show (p.has.take 6).sum = p.sum by rw [List.take_of_length_le (by rw [H.out.ok.six]; exact Nat.le_refl _)]; exact H.out.ok.sumIs)
 go_enter Tryz.func64, Tryz.ntmps64
 go_wp2_with fail
 go_loop [3, 4] (fun t i => ∃ j : Nat, j ≤ 6 ∧ i = .int .i64 j ∧ t = .int .i64 (p.has.take j).sum) (fun _ i => 6 - (intOf i).toNat)
 case atStart => exact ⟨0, by omega, rfl, rfl⟩
 case round =>
   obtain ⟨j, hj, rfl, rfl⟩ := hrel
   by_cases hj6 : j < 6
   · have c1 := H.out.hc hj6
     have hb1 := H.out.ok.at_bd (j : Int)
     have htn : (p.has.take (j + 1)).sum = (p.has.take j).sum + p.at (j : Int) := by
       rw [List.take_succ_eq_append_getElem (by rw [H.out.ok.six]; exact hj6), List.sum_append]
       simp [PS.at, H.out.ok.six, hj6]
     have hts : 0 ≤ (p.has.take j).sum ∧ (p.has.take j).sum + p.at (j : Int) ≤ 1125899906842624 := by
       have h1 := (sum_le_of_nonneg (l := p.has.take j) (fun x hx => H.out.ok.pos x (List.mem_of_mem_take hx)) 0).2.1
       have h2 := (sum_le_of_nonneg (l := p.has.drop (j + 1)) (fun x hx => H.out.ok.pos x (List.mem_of_mem_drop hx)) 0).2.1
       have h3 : p.has.sum = (p.has.take (j + 1)).sum + (p.has.drop (j + 1)).sum := by rw [← List.sum_append, List.take_append_drop]
       rw [htn] at h3
       have := H.out.ok.sumIs; have := H.out.ok.le; have := H.out.ok.most
       omega
     have HT := Lib.hid htn; clear htn
     generalize p.at (j : Int) = v at *
     generalize (p.has.take j).sum = t at *
     go_wp2_with fail
     go_round
     case rel => exact ⟨j + 1, by omega, by go_num, by rw [HT.out]⟩
     case measure => simp [intOf]; omega
   · obtain rfl : j = 6 := by omega
     rw [hS.out]
     go_wp2
     go_ret
     exact ⟨rfl, rfl⟩
theorem Keep.putH {b hb k : Nat} {a w : World} {u : Value} (h : Keep (Two b hb) a w) : Keep (Two b hb) a (w.setCell ⟨hb, k, none⟩ u) := h.setCell (p := ⟨hb, k, none⟩) (.inl (.inr rfl)) u
theorem Keep.putS {b hb k : Nat} {a w : World} {u : Value} (h : Keep (Two b hb) a w) : Keep (Two b hb) a (w.setCell ⟨b, k, none⟩ u) := h.setCell (p := ⟨b, k, none⟩) (.inl (.inl rfl)) u
theorem refp_Error_no (p : Value) (o n : Int) (w : World) (h : lookC o n ≠ 0) : Calls Tryz.prog 34 #[p, .int .i64 o, .int .i64 n] w fun e w' => e = .returned (.int .i64 2) ∧ w = w' := by
 have h2 : lookC o n = 2 := by unfold lookC at h ⊢; split at h <;> simp_all
 have := refp_Error p o n w
 rw [h2] at this; exact this
theorem refp_Error_yes (p : Value) (o n : Int) (w : World) (h : lookC o n = 0) : Calls Tryz.prog 34 #[p, .int .i64 o, .int .i64 n] w fun e w' => e = .returned (.int .i64 0) ∧ w = w' := by
 have := refp_Error p o n w
 rw [h] at this; exact this
set_option maxHeartbeats 400000 in
theorem refp_Mint (b hb : Nat) (p : PS) (o n : Int) (w : World) (h : RPurseAt b hb p w) :
   Calls Tryz.prog 12 #[.pointer (some ⟨b, 0, none⟩), .int .i64 o, .int .i64 n] w fun e w' => e = .returned (.int .i64 (p.mintOp o n).1) ∧ RPurseP b hb (p.mintOp o n).2 w w' := by
 by_cases hl : lookC o n = 0
 · obtain ⟨ho, hn0, hn1⟩ := lookC_zero.1 hl
   have HL := Lib.hid hl
   have hc1 := h.c1
   have b2 := h.ok.le; have b3 := h.ok.most; have b4 := h.ok.sum_bd
   by_cases hm : p.supply + n ≤ 1125899906842624
   · have hg : p.growOp n = (0, p.grow n) := by
       unfold PS.growOp; rw [if_pos]; simp only [Bool.and_eq_true, amtB_iff]; omega
     have hmo : p.mintOp o n = (0, (p.grow n).change o n) := by unfold PS.mintOp; rw [hl, hg]; rfl
     obtain ⟨h0, h6⟩ := ownB_iff.1 ho
     obtain ⟨k, rfl⟩ := Int.eq_ofNat_of_zero_le h0
     have hk : k < 6 := by omega
     have hc0 := h.c0
     have f1 := h.row.frozen 1
     have hck := h.hc hk
     have fk := h.has.frozen k
     have bk := h.ok.at_bd (k : Int)
     have hok := PS.mintOp_ok h.ok (k : Int) n
     rw [hmo] at hok
     have hfin : RPurseAt b hb ((p.grow n).change k n) ((w.setCell ⟨hb, k, none⟩ (.int .i64 (p.at k + n))).setCell ⟨b, 1, none⟩ (.int .i64 (p.supply + n))) := by
       refine ⟨hok, ?_, ?_, h.ne⟩
       · exact (h.row.set_other (p := ⟨hb, k, none⟩) (by simp only; exact fun e => h.ne e.symm) _).set 1 _
       · have := h.has.set k (.int .i64 (p.at k + n))
         rw [← List.map_set] at this
         exact RowAt.set_other this (p := ⟨b, 1, none⟩) (by simp only; exact fun e => h.ne e) _
     have HF := Lib.hid hfin; have HM := Lib.hid hmo
     have hne := h.ne
     have hkp : Keep (Two b hb) w ((w.setCell ⟨hb, k, none⟩ (.int .i64 (p.at k + n))).setCell ⟨b, 1, none⟩ (.int .i64 (p.supply + n))) := ((Keep.refl _ _).putH.putS)
     have HK := Lib.hid hkp
     clear hl ho hg hmo hok hfin h h0 h6 hkp
     have hz0 : ((0 : Int) == 0) = true := rfl
     generalize hx : p.at (k : Int) = x at *
     generalize hy : p.supply = y at *
     have hd : decide (1125899906842624 < y + n) = false := decide_eq_false (by omega)
     clear hx hy
     go_enter Tryz.func12, Tryz.ntmps12
     go_wp2_with fail
     refine (refp_Error_yes _ _ _ _ HL.out).mono ?_
     rintro e w' ⟨rfl, rfl⟩
     go_wp2_with fail
     go_region
     go_wp2_with fail
     go_ret
     rw [HM.out]
     exact ⟨rfl, HK.out.drew, HF.out.drewN 1⟩
   · have hmo : p.mintOp o n = (2, p) := by
       unfold PS.mintOp; rw [hl]
       have : (p.growOp n).1 = 2 := by unfold PS.growOp; rw [if_neg]; simp only [Bool.and_eq_true, amtB_iff]; omega
       rw [this]; rfl
     have HM := Lib.hid hmo; have H := Lib.hid h
     clear hl ho hmo h
     generalize hy : p.supply = y at *
     have hd : decide (1125899906842624 < y + n) = true := decide_eq_true (by omega)
     clear hy
     have hz0 : ((0 : Int) == 0) = true := rfl
     go_enter Tryz.func12, Tryz.ntmps12
     go_wp2_with fail
     refine (refp_Error_yes _ _ _ _ HL.out).mono ?_
     rintro e w' ⟨rfl, rfl⟩
     go_wp2_with fail
     go_ret
     rw [HM.out]
     exact ⟨rfl, RPurseP.refl H.out⟩
 · have hmo : p.mintOp o n = (2, p) := by unfold PS.mintOp; rw [if_pos hl]
   have HM := Lib.hid hmo; have H := Lib.hid h; have HL := Lib.hid hl
   clear hl hmo h
   go_enter Tryz.func12, Tryz.ntmps12
   go_wp2_with fail
   refine (refp_Error_no _ _ _ _ HL.out).mono ?_
   rintro e w' ⟨rfl, rfl⟩
   go_wp2_with fail
   go_ret
   rw [HM.out]
   exact ⟨rfl, RPurseP.refl H.out⟩
set_option maxHeartbeats 400000 in
theorem refp_Grow (b hb : Nat) (p : PS) (n : Int) (w : World) (h : RPurseAt b hb p w) :
   Calls Tryz.prog 76 #[.pointer (some ⟨b, 0, none⟩), .int .i64 n] w fun e w' => e = .returned (.int .i64 (p.growOp n).1) ∧ RPurseP b hb (p.growOp n).2 w w' := by
 by_cases hn : amtB n = true
 · obtain ⟨n0, n1⟩ := amtB_iff.1 hn
   have hc1 := h.c1
   have b2 := h.ok.le; have b3 := h.ok.most; have b4 := h.ok.sum_bd
   have HN := Lib.hid hn
   by_cases hm : p.supply + n ≤ 1125899906842624
   · have hg : p.growOp n = (0, p.grow n) := by
       unfold PS.growOp; rw [if_pos]; simp only [Bool.and_eq_true, amtB_iff]; omega
     have f1 := h.row.frozen 1
     have hok := PS.growOp_ok h.ok n
     rw [hg] at hok
     have HF := Lib.hid (h.setSupply n hok); have HM := Lib.hid hg
     have HK := Lib.hid (show Keep (Two b hb) w (w.setCell ⟨b, 1, none⟩ (.int .i64 (p.supply + n))) from (Keep.refl _ _).putS)
     clear hg hok h hn
     generalize hy : p.supply = y at *
     have hd : decide (1125899906842624 < y + n) = false := decide_eq_false (by omega)
     clear hy
     go_enter Tryz.func76, Tryz.ntmps76
     go_wp2_with fail
     refine (refb_IsAmount _ _).mono ?_
     rw [HN.out]
     rintro e w' ⟨rfl, rfl⟩
     go_wp2_with fail
     go_ret
     rw [HM.out]
     exact ⟨rfl, HK.out, HF.out⟩
   · have hg : p.growOp n = (2, p) := by
       unfold PS.growOp; rw [if_neg]; simp only [Bool.and_eq_true, amtB_iff]; omega
     have HM := Lib.hid hg; have H := Lib.hid h
     clear hg h hn
     generalize hy : p.supply = y at *
     have hd : decide (1125899906842624 < y + n) = true := decide_eq_true (by omega)
     clear hy
     go_enter Tryz.func76, Tryz.ntmps76
     go_wp2_with fail
     refine (refb_IsAmount _ _).mono ?_
     rw [HN.out]
     rintro e w' ⟨rfl, rfl⟩
     go_wp2_with fail
     go_ret
     rw [HM.out]
     exact ⟨rfl, RPurseP.refl H.out⟩
 · have hn' : amtB n = false := by simpa using hn
   have hg : p.growOp n = (2, p) := by unfold PS.growOp; rw [hn']; rfl
   have HM := Lib.hid hg; have H := Lib.hid h; have HN := Lib.hid hn'
   clear hg h hn hn'
   go_enter Tryz.func76, Tryz.ntmps76
   go_wp2_with fail
   refine (refb_IsAmount _ _).mono ?_
   rw [HN.out]
   rintro e w' ⟨rfl, rfl⟩
   go_wp2_with fail
   go_ret
   rw [HM.out]
   exact ⟨rfl, RPurseP.refl H.out⟩
set_option maxHeartbeats 400000 in
theorem refp_Out (b hb : Nat) (p : PS) (o n : Int) (w : World) (h : RPurseAt b hb p w) :
   Calls Tryz.prog 14 #[.pointer (some ⟨b, 0, none⟩), .int .i64 o, .int .i64 n] w fun e w' => e = .returned (.int .i64 (p.outOp o n).1) ∧ RPurseP b hb (p.outOp o n).2 w w' := by
 by_cases hl : lookC o n = 0
 · obtain ⟨ho, hn0, hn1⟩ := lookC_zero.1 hl
   have HL := Lib.hid hl
   have b2 := h.ok.le; have b3 := h.ok.most; have b4 := h.ok.sum_bd
   obtain ⟨h0, h6⟩ := ownB_iff.1 ho
   obtain ⟨k, rfl⟩ := Int.eq_ofNat_of_zero_le h0
   have hk : k < 6 := by omega
   have hc0 := h.c0
   have hck := h.hc hk
   have bk := h.ok.at_bd (k : Int)
   have hz0 : ((0 : Int) == 0) = true := rfl
   by_cases hm : p.at k < n
   · have hmo : p.outOp k n = (6, p) := by unfold PS.outOp; rw [hl, if_neg (by simp), if_pos hm]
     have HM := Lib.hid hmo; have H := Lib.hid h
     have hd : decide (p.at k < n) = true := decide_eq_true hm
     clear hl ho hmo h h0 h6
     generalize hx : p.at (k : Int) = x at *
     clear hx hm
     go_enter Tryz.func14, Tryz.ntmps14
     go_wp2_with fail
     refine (refp_Error_yes _ _ _ _ HL.out).mono ?_
     rintro e w' ⟨rfl, rfl⟩
     go_wp2_with fail
     go_ret
     rw [HM.out]
     exact ⟨rfl, RPurseP.refl H.out⟩
   · have hmo : p.outOp k n = (0, p.change k (-n)) := by unfold PS.outOp; rw [hl, if_neg (by simp), if_neg hm]
     have fk := h.has.frozen k
     have hok := h.ok.change (o := k) (n := -n) ho (by omega) (by omega)
     have hfin := h.setHas (k := k) (-n) hok
     rw [show p.at k + -n = p.at k - n from (Int.sub_eq_add_neg).symm] at hfin
     have HF := Lib.hid hfin; have HM := Lib.hid hmo
     have HK := Lib.hid (show Keep (Two b hb) w (w.setCell ⟨hb, k, none⟩ (.int .i64 (p.at k - n))) from (Keep.refl _ _).putH)
     have hd : decide (p.at k < n) = false := decide_eq_false hm
     clear hl ho hmo hok hfin h h0 h6
     generalize hx : p.at (k : Int) = x at *
     clear hx
     go_enter Tryz.func14, Tryz.ntmps14
     go_wp2_with fail
     refine (refp_Error_yes _ _ _ _ HL.out).mono ?_
     rintro e w' ⟨rfl, rfl⟩
     go_wp2_with fail
     go_region
     go_wp2_with fail
     go_ret
     rw [HM.out]
     exact ⟨rfl, HK.out.drew, HF.out.drewN 1⟩
 · have hmo : p.outOp o n = (2, p) := by unfold PS.outOp; rw [if_pos hl]
   have HM := Lib.hid hmo; have H := Lib.hid h; have HL := Lib.hid hl
   clear hl hmo h
   go_enter Tryz.func14, Tryz.ntmps14
   go_wp2_with fail
   refine (refp_Error_no _ _ _ _ HL.out).mono ?_
   rintro e w' ⟨rfl, rfl⟩
   go_wp2_with fail
   go_ret
   rw [HM.out]
   exact ⟨rfl, RPurseP.refl H.out⟩
end Go.Proofs.YtajnfkmkombajaaGreatDoor
namespace Go.Proofs.YtajnfkmkombajaaGreatDoor
open Go.RowKit
theorem prod_step {b c n left A bit : Nat} (hc : 0 < c) (hn : n = A * b / c) (hl : left = A * b % c) :
   2 * n + (2 * left + bit * b) / c = (2 * A + bit) * b / c ∧ (2 * left + bit * b) % c = (2 * A + bit) * b % c := by
 have h := Nat.div_add_mod (A * b) c
 rw [← hn, ← hl] at h
 have e : (2 * A + bit) * b = (2 * left + bit * b) + c * (2 * n) := by
   rw [Nat.add_mul, Nat.mul_assoc, ← h, Nat.mul_add, Nat.mul_left_comm]; omega
 rw [e, Nat.add_mul_div_left _ _ hc, Nat.add_mul_mod_self_left]
 exact ⟨Nat.add_comm _ _, rfl⟩
theorem half_of (a k : Nat) : a / 2 ^ k = 2 * (a / 2 ^ (k + 1)) + a / 2 ^ k % 2 := by
 rw [Nat.pow_succ, ← Nat.div_div_eq_div_mul]; omega
theorem part_le (a b c k : Nat) : a / 2 ^ k * b / c ≤ a * b / c := Nat.div_le_div_right (Nat.mul_le_mul_right _ (Nat.div_le_self _ _))
theorem top_zero {a : Nat} (h : a ≤ 1125899906842624) : a / 2 ^ 51 = 0 := Nat.div_eq_of_lt (by omega)
theorem bit_cases (x : Nat) : x % 2 = 0 ∨ x % 2 = 1 := by omega
theorem over_nat {a b c : Nat} (ha : a ≤ 1125899906842624) (hb : b ≤ 1125899906842624) (hc0 : 0 < c) (hc : c ≤ 1125899906842624) (h : a * b / c ≤ 1125899906842624) : overOk a b c := by
 refine ⟨by omega, by omega, by omega, ?_⟩
 have : ((a : Int) * b / c) = ((a * b / c : Nat) : Int) := by simp
 rw [this]; omega
end Go.Proofs.YtajnfkmkombajaaGreatDoor
namespace Go.Proofs.YtajnfkmkombajaaGreatDoor
open Go.RowKit
def prodV (a b c : Nat) : Value := if a * b / c ≤ 1125899906842624 then .tuple #[.int .i64 ((a * b / c : Nat) : Int), .int .i64 ((a * b % c : Nat) : Int), .bool true] else .tuple #[.int .i64 0, .int .i64 0, .bool false]
set_option maxRecDepth 8000 in
set_option maxHeartbeats 1000000 in
theorem ref_Product (a b c : Nat) (ha : a ≤ 1125899906842624) (hb : b ≤ 1125899906842624) (hc0 : 0 < c) (hc : c ≤ 1125899906842624) (w : World) :
   Calls Tryz.prog 62 #[.int .i64 a, .int .i64 b, .int .i64 c] w fun e w' => e = .returned (prodV a b c) ∧ w = w' := by
 have HA := Lib.hid ha
 have HB := Lib.hid hb
 have HC := Lib.hid hc
 have HC0 := Lib.hid hc0
 clear ha hb hc hc0
 go_enter Tryz.func62, Tryz.ntmps62
 go_wp2_with fail
 go_loop [9, 10, 11] (fun sn sl sk => ∃ m n l : Nat, m ≤ 51 ∧ sk = .int .i64 ((m : Int) - 1) ∧ sn = .int .i64 n ∧ sl = .int .i64 l ∧ n = a / 2 ^ m * b / c ∧ l = a / 2 ^ m * b % c ∧ n ≤ 1125899906842624) (fun _ _ k => (intOf k + 1).toNat)
 case atStart => exact ⟨51, 0, 0, by decide, rfl, rfl, rfl, by rw [top_zero HA.out]; simp, by rw [top_zero HA.out]; simp, by decide⟩
 case round =>
   obtain ⟨m, n, l, hm, rfl, rfl, rfl, hn, hl, hnm⟩ := hrel
   by_cases h0 : m = 0
   · subst h0
     have hp : prodV a b c = .tuple #[.int .i64 (n : Int), .int .i64 (l : Int), .bool true] := by
       simp only [Nat.pow_zero, Nat.div_one] at hn hl
       unfold prodV; rw [← hn, ← hl, if_pos hnm]
     have HP := Lib.hid hp
     clear hn hl hp hnm hm
     have hz : ((0 : Nat) : Int) - 1 = -1 := rfl
     rw [hz]
     go_wp2_with fail
     go_ret3
     exact ⟨by rw [HP.out]; rfl, rfl⟩
   · obtain ⟨k, rfl⟩ : ∃ k, m = k + 1 := ⟨m - 1, by omega⟩
     have hk : ((k + 1 : Nat) : Int) - 1 = (k : Int) := by omega
     rw [hk]
     have hlc : l < c := by rw [hl]; exact Nat.mod_lt _ HC0.out
     have hl2 : l ≤ 1125899906842624 := by have := HC.out; omega
     clear hlc hk
     have hhalf := half_of a k
     have hle := part_le a b c k
     have e0 : ((a : Int) / 2 ^ k) = ((a / 2 ^ k : Nat) : Int) := by simp
     have hb := HB.out
     have hc0 := HC0.out
     rcases bit_cases (a / 2 ^ k) with hbit | hbit
     · have t : (((a : Int) / 2 ^ k).tmod 2 == 1) = false := by
         rw [e0]
         show (((a / 2 ^ k % 2 : Nat) : Int) == 1) = _
         rw [hbit]; rfl
       obtain ⟨s1, s2⟩ := prod_step (bit := 0) hc0 hn hl
       rw [hbit] at hhalf
       rw [← hhalf, show 2 * l + 0 * b = 2 * l by omega] at s1 s2
       have hd : (2 * (l : Int)).tdiv (c : Int) = ((2 * l) / c : Nat) := by
         rw [show (2 * (l : Int)) = ((2 * l : Nat) : Int) by omega]; rfl
       have hr : (2 * (l : Int)).tmod (c : Int) = ((2 * l) % c : Nat) := by
         rw [show (2 * (l : Int)) = ((2 * l : Nat) : Int) by omega]; rfl
       have hdb : (2 * l) / c ≤ 2 * l := Nat.div_le_self _ _
       have hrb : (2 * l) % c ≤ 2 * l := Nat.mod_le _ _
       generalize (2 * l) / c = d at *
       generalize (2 * l) % c = r at *
       rw [← s1] at hle
       have S1 := Lib.hid s1; have S2 := Lib.hid s2
       clear s1 s2 hn hl hhalf e0 hbit
       by_cases hbig : 1125899906842624 < 2 * n + d
       · have hp : prodV a b c = .tuple #[.int .i64 0, .int .i64 0, .bool false] := by
           unfold prodV; rw [if_neg (by omega)]
         have HP := Lib.hid hp
         clear hp hle
         go_wp2_with fail
         go_ret3
         exact ⟨by rw [HP.out]; rfl, rfl⟩
       · clear hle
         go_wp2_with fail
         go_round
         case rel => exact ⟨k, 2 * n + d, r, by omega, rfl, by go_num, rfl, S1.out, S2.out, by omega⟩
         case measure => simp [intOf]
     · have t : (((a : Int) / 2 ^ k).tmod 2 == 1) = true := by
         rw [e0]
         show (((a / 2 ^ k % 2 : Nat) : Int) == 1) = _
         rw [hbit]; rfl
       obtain ⟨s1, s2⟩ := prod_step (bit := 1) hc0 hn hl
       rw [hbit] at hhalf
       rw [← hhalf, show 2 * l + 1 * b = 2 * l + b by omega] at s1 s2
       have hd : (2 * (l : Int) + (b : Int)).tdiv (c : Int) = ((2 * l + b) / c : Nat) := by
         rw [show (2 * (l : Int) + (b : Int)) = ((2 * l + b : Nat) : Int) by omega]; rfl
       have hr : (2 * (l : Int) + (b : Int)).tmod (c : Int) = ((2 * l + b) % c : Nat) := by
         rw [show (2 * (l : Int) + (b : Int)) = ((2 * l + b : Nat) : Int) by omega]; rfl
       have hdb : (2 * l + b) / c ≤ 2 * l + b := Nat.div_le_self _ _
       have hrb : (2 * l + b) % c ≤ 2 * l + b := Nat.mod_le _ _
       generalize (2 * l + b) / c = d at *
       generalize (2 * l + b) % c = r at *
       rw [← s1] at hle
       have S1 := Lib.hid s1; have S2 := Lib.hid s2
       clear s1 s2 hn hl hhalf e0 hbit
       by_cases hbig : 1125899906842624 < 2 * n + d
       · have hp : prodV a b c = .tuple #[.int .i64 0, .int .i64 0, .bool false] := by
           unfold prodV; rw [if_neg (by omega)]
         have HP := Lib.hid hp
         clear hp hle
         go_wp2_with fail
         go_ret3
         exact ⟨by rw [HP.out]; rfl, rfl⟩
       · clear hle
         go_wp2_with fail
         go_round
         case rel => exact ⟨k, 2 * n + d, r, by omega, rfl, by go_num, rfl, S1.out, S2.out, by omega⟩
         case measure => simp [intOf]
theorem rprod_yes {a b c : Nat} (h : a * b / c ≤ 1125899906842624) : prodV a b c = .tuple #[.int .i64 ((a * b / c : Nat) : Int), .int .i64 ((a * b % c : Nat) : Int), .bool true] := by unfold prodV; rw [if_pos h]
theorem rprod_no {a b c : Nat} (h : ¬ a * b / c ≤ 1125899906842624) : prodV a b c = .tuple #[.int .i64 0, .int .i64 0, .bool false] := by unfold prodV; rw [if_neg h]
end Go.Proofs.YtajnfkmkombajaaGreatDoor
