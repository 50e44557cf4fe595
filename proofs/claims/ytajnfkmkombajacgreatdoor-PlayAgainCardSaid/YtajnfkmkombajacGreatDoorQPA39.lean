/-
  The walk of PlayAgain.
-/
import Derived.Test.YtajnfkmkombajacGreatDoorQPA25
import Derived.Test.YtajnfkmkombajacGreatDoorQPA13
import Derived.Deep.RegionHeld3
set_option linter.unusedVariables false
set_option linter.unusedSimpArgs false
set_option linter.unusedVariables false
namespace Go.Proofs.YtajnfkmkombajacGreatDoor
open Go.RowKit Go.Maps

/-- two chains that are new, apart -/
structure Pair (W : World) (ca : Nat) (Ka : ChL) (na sd : Nat) (a : CS) (cb : Nat) (Kb : ChL) (nb : Nat) (b : CS) (w : World) : Prop where
  a : CN W ca Ka na sd a w
  b : CN W cb Kb nb sd b w
  dis : ∀ c, Ka.foot ca c → ¬ Kb.foot cb c
section
variable {W w w' : World} {ca cb na nb ma sd : Nat} {Ka Kb K' : ChL} {a b y : CS}
theorem Pair.next (h : Pair W ca Ka na sd a cb Kb nb b w) (k : Below w.heap.size w w') : Pair W ca Ka na sd a cb Kb nb b w' := ⟨h.a.next k, h.b.next k, h.dis⟩
theorem Pair.ofA (h : Pair W ca Ka na sd a cb Kb nb b w) (k : ChGo w (Ka.foot ca) ca K' ma sd y w') : Pair W ca K' ma sd y cb Kb nb b w' :=
  ⟨h.a.of k, h.b.other k.keep h.a.new (fun c hc hf => h.dis c hf hc), fun c hc hb => by
    rcases k.foot c hc with e | e
    · exact h.dis c e hb
    · have := h.b.ch.footlt c hb; omega⟩
theorem Pair.ofB (h : Pair W ca Ka na sd a cb Kb nb b w) (k : ChGo w (Kb.foot cb) cb K' ma sd y w') : Pair W ca Ka na sd a cb K' ma y w' :=
  ⟨h.a.other k.keep h.b.new h.dis, h.b.of k, fun c hc hb => by
    rcases k.foot c hb with e | e
    · exact h.dis c hc e
    · have := h.a.ch.footlt c hc; omega⟩
end

@[go_sem] theorem sums_neq' (a b c : Int) (w : World) : (binOp .neq 71 (.agg #[.int .i64 a, .int .i64 b, .int .i64 c]) (.agg #[.int .i64 a, .int .i64 b, .int .i64 c])).run Tryz.prog w = .ok (.bool false) w := by
  have h := sums_neq a b c w
  unfold sumsV at h
  exact h

set_option maxRecDepth 8000 in
set_option maxHeartbeats 4000000 in
theorem again_good (A : Nat → Addr) (sd : Nat) (hs : sd < 18446744073709551616) (ao : Option Addr) (len cap : Nat) (zs : List Int) (cut : Int) (w : World) (HS : Sents A w) (R : RdI .i64 w ao len cap zs) (hwf : ∀ v ∈ zs, v ≤ 9223372036854775807) (hl : len ≤ 250) (c0 : 0 ≤ cut) (c1 : cut ≤ len) :
    Calls Tryz.prog 9 #[.int .u64 sd, .slice ao len cap, .int .i64 cut] w fun e w' => e = .returned (.bool true) ∧ Below w.heap.size w w' := by
  have m2 : (2 : Nat) ∈ [1, 2, 3, 4, 5, 6, 7, 8, 9, 10] := by decide
  have m4 : (4 : Nat) ∈ [1, 2, 3, 4, 5, 6, 7, 8, 9, 10] := by decide
  have m5 : (5 : Nat) ∈ [1, 2, 3, 4, 5, 6, 7, 8, 9, 10] := by decide
  have m6 : (6 : Nat) ∈ [1, 2, 3, 4, 5, 6, 7, 8, 9, 10] := by decide
  have m7 : (7 : Nat) ∈ [1, 2, 3, 4, 5, 6, 7, 8, 9, 10] := by decide
  have m8 : (8 : Nat) ∈ [1, 2, 3, 4, 5, 6, 7, 8, 9, 10] := by decide
  have HSS := Lib.hid HS; clear HS
  obtain ⟨k, rfl⟩ := Int.eq_ofNat_of_zero_le c0
  have hk : k ≤ len := by omega
  have hzl := R.size
  obtain ⟨hs1, R1⟩ := RdI.hi (P := Tryz.prog) (t := 38) Tryz.underlying38 (fun wx => by kernel_rfl) R k hk .i64
  obtain ⟨a2, hs2, R2⟩ := RdI.lo (P := Tryz.prog) (t := 38) Tryz.underlying38 (fun wx => by kernel_rfl) R k hk .i64
  have HR := Lib.hid R; have HR1 := Lib.hid R1; have HR2 := Lib.hid R2
  have HWF := Lib.hid hwf
  have HZL := Lib.hid hzl
  have d1 : decide ((250 : Int) < (len : Int)) = false := by simp; omega
  have d2 : decide ((k : Int) < 0) = false := by simp
  have d3 : decide ((len : Int) < (k : Int)) = false := by simp; omega
  have d3' : decide (len < k) = false := by simp; omega
  clear R R1 R2 hwf c0 c1 hzl
  go_enter Tryz.func9, Tryz.ntmps9
  go_wp2_with fail
  refine (law_played A _ HSS.out).mono ?_
  rintro e w0 ⟨rfl, hb0⟩
  have HB0 := Lib.hid hb0; clear hb0
  have HS0 := Lib.hid (HSS.out.below HB0.out)
  go_wp2_with fail
  refine (chain_New A [1, 2, 3, 4, 5, 6, 7, 8, 9, 10] sd _ HS0.out.errs m2 m4 m5 m6 m7 m8).mono ?_
  rintro e w1 ⟨ca, Ka, rfl, g1⟩
  have H1 := Lib.hid g1.cn; clear g1
  have HS1 := Lib.hid (HS0.out.below H1.out.below)
  go_wp2_with fail
  refine (chain_New A [1, 2, 3, 4, 5, 6, 7, 8, 9, 10] sd _ HS1.out.errs m2 m4 m5 m6 m7 m8).mono ?_
  rintro e w2 ⟨cb, Kb, rfl, g2⟩
  have HT := Lib.hid (show Pair w0 ca Ka 3 sd CS.new cb Kb 3 CS.new w2 from ⟨H1.out.next g2.cn.below, g2.cn.since H1.out.below, fun c hc hb => by have := H1.out.ch.footlt c hc; have := g2.cn.new c hb; omega⟩)
  clear g2 H1 HS1
  go_wp2_with fail
  refine (law_OwnInts ao len cap zs _ (HR.out.below (btrans HB0.out HT.out.a.below)) (by omega)).mono ?_
  rintro e w3 ⟨ob, oc, rfl, ho3, hb3⟩
  have HO3 := Lib.hid ho3
  have HT3 := Lib.hid (HT.out.next hb3)
  have HF3 := Lib.hid (fun x (hx : ob = some x) => show x.block < w3.heap.size ∧ ¬ Ka.foot ca x.block by
    have := ho3.lt x.block (by rw [hx]; rfl)
    exact ⟨this.2, fun hf => by have := HT.out.a.ch.footlt _ hf; omega⟩)
  clear ho3 hb3
  go_wp2_with fail
  have hpr := play_Run A w0 ca Ka 3 sd CS.new w3 0 ob oc zs HT3.out.a PlayQ.new (by rw [HZL.out]; exact RdI.of_own HO3.out) HWF.out HF3.out (by have := HZL.out; omega) (by decide) hs HS0.out
  rw [HZL.out] at hpr
  refine hpr.mono ?_
  clear hpr
  rintro e w4 ⟨out1, K1, n1, rfl, hP, hn1⟩
  have HT4 := Lib.hid (HT3.out.ofA hP.go)
  have HOW := Lib.hid (show w4.ownsRow w3.heap.size 3 1 out1 len ((CS.new.runA sd zs).map (Value.int .i64)) by have := hP.own; rw [CS.runA_len, HZL.out] at this; exact this)
  have HSB := Lib.hid (fun g (hg : out1.ownBlock = some g) => show ¬ Kb.foot cb g ∧ w3.heap.size ≤ g ∧ g < w4.heap.size from ⟨fun hf => by have := HT3.out.b.ch.footlt g hf; have := (hP.own.lt g hg).1; omega, hP.own.lt g hg⟩)
  obtain ⟨o1, oc1, rfl⟩ := own_shape HOW.out
  clear hP hn1
  go_wp2_with fail
  refine (law_OwnInts ao k cap (zs.take k) _ (HR1.out.below (btrans HB0.out HT4.out.a.below)) (by omega)).mono ?_
  rintro e w5 ⟨ob2, oc2, rfl, ho5, hb5⟩
  have HO5 := Lib.hid ho5
  have HT5 := Lib.hid (HT4.out.next hb5)
  have HF5 := Lib.hid (fun x (hx : ob2 = some x) => show x.block < w5.heap.size ∧ ¬ Kb.foot cb x.block by
    have := ho5.lt x.block (by rw [hx]; rfl)
    exact ⟨this.2, fun hf => by have := HT4.out.b.ch.footlt _ hf; omega⟩)
  have HOW5 := Lib.hid (ownsRow_other HOW.out (fun g hg => hb5.block g (HSB.out g hg).2.2) (w' := w5))
  have hz5 := hb5.size
  have HZ5 := Lib.hid hz5
  clear ho5 hb5 hz5 HO3 HF3
  have hkl : (zs.take k).length = k := by rw [List.length_take, HZL.out]; omega
  have HKL := Lib.hid hkl
  have hpr := play_Run A w0 cb Kb 3 sd CS.new w5 0 ob2 oc2 (zs.take k) HT5.out.b PlayQ.new (by rw [HKL.out]; exact RdI.of_own HO5.out) (fun v hv => HWF.out v (List.mem_of_mem_take hv)) HF5.out (by have := HKL.out; omega) (by decide) hs HS0.out
  rw [hkl] at hpr
  clear hkl
  go_wp2_with fail
  refine hpr.mono ?_
  clear hpr
  rintro e w6 ⟨out2, K2, n2, rfl, hP, hn2⟩
  have HT6 := Lib.hid (HT5.out.ofB hP.go)
  have HOW6 := Lib.hid (ownsRow_other HOW5.out (fun g hg => hP.go.keep.block g (Nat.lt_of_lt_of_le (HSB.out g hg).2.2 HZ5.out) (HSB.out g hg).1) (w' := w6))
  have HX6 := Lib.hid (show w6.ownsRow w5.heap.size 3 1 out2 k ((CS.new.runA sd (zs.take k)).map (Value.int .i64)) by have := hP.own; rw [CS.runA_len, HKL.out] at this; exact this)
  have HXB := Lib.hid (fun g (hg : out2.ownBlock = some g) => show ¬ K2.foot cb g ∧ w5.heap.size ≤ g ∧ g < w6.heap.size from ⟨hP.sep g hg, hP.own.lt g hg⟩)
  have HSB6 := Lib.hid (fun g (hg : (Value.slice o1 len oc1).ownBlock = some g) => show ¬ K2.foot cb g ∧ g < w5.heap.size by
    obtain ⟨b1, b2, b3⟩ := HSB.out g hg
    have := HZ5.out
    exact ⟨fun hf => (hP.go.foot g hf).elim b1 (fun e => by omega), by omega⟩)
  have HQ6 := Lib.hid (show PlayQ k (CS.new.runS sd (zs.take k)) by have := PlayQ.run (x := CS.new) sd (zs.take k) PlayQ.new; rw [HKL.out, Nat.zero_add] at this; exact this)
  have HN2 := Lib.hid (show n2 ≤ 3 + 700 * k by have := HKL.out; omega)
  obtain ⟨o2, oc2', rfl⟩ := own_shape HX6.out
  have hz6 := hP.go.keep.size
  have HZ6 := Lib.hid hz6
  clear hP hn2 hz6 HOW HOW5 HO5 HF5 HSB
  go_wp2_with fail
  refine (play_Add A [1, 2, 3, 4, 5, 6, 7, 8, 9, 10] w6 (K2.foot cb) cb K2 n2 sd _ w6 HT6.out.b.go HQ6.out.inv (by have := HQ6.out.w; omega)).mono ?_
  rintro e w7 ⟨rfl, hb7⟩
  have HRB := Lib.hid (And.intro (CS.runS_append CS.new sd (zs.take k) (zs.drop k)) (CS.runA_append sd (zs.drop k) (zs.take k) CS.new))
  have HTD := Lib.hid (List.take_append_drop k zs)
  rw [HTD.out] at HRB
  have HQY := Lib.hid HQ6.out.sums
  have HQYB := Lib.hid (And.intro (hasK_bd HQ6.out.inv.p (k := 6) (Nat.le_refl _)) (And.intro HQ6.out.inv.s.total_bd HQ6.out.inv.p.most))
  generalize CS.new.runS sd (zs.take k) = y at *
  generalize CS.new.runA sd (zs.take k) = ansA at *
  obtain ⟨wA, hwA⟩ : ∃ wA, w7.alloc (.cells #[.int .i64 (hasK y.p 6), .int .i64 y.s.total, .int .i64 y.p.supply] 71) = wA := ⟨_, rfl⟩
  have bA : Below w6.heap.size w6 wA := by rw [← hwA]; exact hb7.alloc hb7.size _
  have B12 : RowAt w7.heap.size 71 [.int .i64 (hasK y.p 6), .int .i64 y.s.total, .int .i64 y.p.supply] wA := by rw [← hwA]; exact RowAt.new _ _ _
  have HTA := Lib.hid (HT6.out.next bA)
  have HOWA := Lib.hid (ownsRow_other HOW6.out (fun g hg => bA.block g (HOW6.out.lt g hg).2) (w' := wA))
  have HXA := Lib.hid (ownsRow_other HX6.out (fun g hg => bA.block g (HX6.out.lt g hg).2) (w' := wA))
  have H12 := Lib.hid B12
  have hz7 := hb7.size
  have HZ7 := Lib.hid hz7
  have HG12 := Lib.hid (fun (hf : K2.foot cb w7.heap.size) => by have := HT6.out.b.ch.footlt _ hf; omega : ¬ K2.foot cb w7.heap.size)
  clear bA B12 hb7
  unfold sumsV
  go_wp2_with fail
  refine (law_OwnInts a2 (len - k) (cap - k) (zs.drop k) _ (HR2.out.below (btrans HB0.out HTA.out.a.below)) (by omega)).mono ?_
  rintro e w8 ⟨ob3, oc3, rfl, ho8, hb8⟩
  have HO8 := Lib.hid ho8
  have HT8 := Lib.hid (HTA.out.next hb8)
  have HF8 := Lib.hid (fun x (hx : ob3 = some x) => show x.block < w8.heap.size ∧ ¬ K2.foot cb x.block by
    have := ho8.lt x.block (by rw [hx]; rfl)
    exact ⟨this.2, fun hf => by have := HTA.out.b.ch.footlt _ hf; omega⟩)
  have HOW8 := Lib.hid (ownsRow_other HOWA.out (fun g hg => hb8.block g (HOWA.out.lt g hg).2) (w' := w8))
  have HX8 := Lib.hid (ownsRow_other HXA.out (fun g hg => hb8.block g (HXA.out.lt g hg).2) (w' := w8))
  have H128 := Lib.hid (H12.out.below hb8 H12.out.lt)
  clear ho8 hb8
  have hdl : (zs.drop k).length = len - k := by rw [List.length_drop, HZL.out]
  have HDL := Lib.hid hdl
  have hpr := play_Run A w0 cb K2 n2 sd y w8 k ob3 oc3 (zs.drop k) HT8.out.b HQ6.out (by rw [HDL.out]; exact RdI.of_own HO8.out) (fun v hv => HWF.out v (List.mem_of_mem_drop hv)) HF8.out (by have := HDL.out; omega) HN2.out hs HS0.out
  rw [hdl] at hpr
  clear hdl
  go_wp2_with fail
  refine hpr.mono ?_
  clear hpr
  rintro e w9 ⟨out3, K3, n3, rfl, hP, hn3⟩
  have HT9 := Lib.hid (HT8.out.ofB hP.go)
  have HOW9 := Lib.hid (ownsRow_other HOW8.out (fun g hg => hP.go.keep.block g (HOW8.out.lt g hg).2 (HSB6.out g hg).1) (w' := w9))
  have HX9 := Lib.hid (ownsRow_other HX8.out (fun g hg => hP.go.keep.block g (HX8.out.lt g hg).2 (HXB.out g hg).1) (w' := w9))
  have H129 := Lib.hid (H128.out.keep hP.go.keep HG12.out)
  have HY9 := Lib.hid (show w9.ownsRow w8.heap.size 3 1 out3 (len - k) ((y.runA sd (zs.drop k)).map (Value.int .i64)) by have := hP.own; rw [CS.runA_len, HDL.out] at this; exact this)
  have HXN := Lib.hid (fun g (hg : (Value.slice o2 k oc2').ownBlock = some g) => show ¬ K3.foot cb g ∧ w5.heap.size ≤ g by
    obtain ⟨b1, b2, b3⟩ := HXB.out g hg
    refine ⟨fun hf => (hP.go.foot g hf).elim b1 (fun e => ?_), b2⟩
    have := (HX8.out.lt g hg).2; omega)
  obtain ⟨o3, oc3', rfl⟩ := own_shape HY9.out
  have HKLL := Lib.hid (And.intro hk hl)
  clear hP
  obtain ⟨i0, hi, hz0, hz1, hz2⟩ := info_parts Tryz.infoInt
  go_wp2_with (at_builtin; refine wpList_append_row _ rfl (.tmp 55) (.tmp 61) 38 rfl w5.heap.size 3 i0 (.int .i64 0) 1 8 Tryz.underlying38 hi hz0 hz1 hz2 rfl (by decide) (.slice o2 k oc2') k _ rfl HX9.out w8.heap.size (.slice o3 (len - k) oc3') (len - k) _ rfl HY9.out (by intro u hu; obtain ⟨x, _, rfl⟩ := List.mem_map.1 hu; rfl) (by have := HKLL.out; unfold maxLen; omega) (by have := HKLL.out; omega) (Nat.le_trans HZ6.out (Nat.le_trans HZ7.out (Nat.le_of_lt H129.out.lt))) ?_)
  intro v' w10 ho hg hor
  have K10 : Keep (fun b => (Value.slice o2 k oc2').ownBlock = some b) w9 w10 := (Keep.refl _ _).grown hg (fun b hb => .inl hb)
  have HG5 := Lib.hid (fun (b : Nat) (hb : (Value.slice o2 k oc2').ownBlock = some b) => show w0.heap.size ≤ b from Nat.le_trans HT5.out.a.below.size (HXN.out b hb).2)
  have HT10 := Lib.hid (show Pair w0 ca K1 n1 sd (CS.new.runS sd zs) cb K3 n3 (y.runS sd (zs.drop k)) w10 from
    ⟨HT9.out.a.other K10 HG5.out (fun b hb e => by have := HT5.out.a.ch.footlt b hb; have := (HXN.out b e).2; omega), HT9.out.b.other K10 HG5.out (fun b hb e => (HXN.out b e).1 hb), HT9.out.dis⟩)
  have HOW10 := Lib.hid (ownsRow_other HOW9.out (fun g hg => K10.block g (HOW9.out.lt g hg).2 (fun e => by have := (HSB6.out g hg).2; have := (HXN.out g e).2; omega)) (w' := w10))
  have H1210 := Lib.hid (H129.out.keep K10 (fun e => by have := (HX6.out.lt _ e).2; have := HZ7.out; omega))
  have HX10 := Lib.hid (show w10.ownsRow w5.heap.size 3 1 v' len ((CS.new.runA sd zs).map (Value.int .i64)) by
    have e : k + (len - k) = len := by have := HKLL.out; omega
    rw [← List.map_append, ← HRB.out.2] at ho; first | exact ho | (rw [e] at ho; exact ho))
  have HQ9 := Lib.hid (PlayQ.run (x := y) sd (zs.drop k) HQ6.out)
  rw [← HRB.out.1] at HT10 HQ9
  clear ho hg hor K10
  obtain ⟨ov, cv, rfl⟩ := own_shape HX10.out
  generalize CS.new.runS sd zs = z at *
  generalize CS.new.runA sd zs = ansZ at *
  go_wp2_with fail
  refine (play_Add A [1, 2, 3, 4, 5, 6, 7, 8, 9, 10] w10 (K3.foot cb) cb K3 n3 sd z w10 HT10.out.b.go HQ9.out.inv (by have := HQ9.out.w; have := HDL.out; have := HKLL.out; omega)).mono ?_
  rintro e w11 ⟨rfl, hb11⟩
  have HQZ := Lib.hid HQ9.out.sums
  have HQZB := Lib.hid (And.intro (hasK_bd HQ9.out.inv.p (k := 6) (Nat.le_refl _)) (And.intro HQ9.out.inv.s.total_bd HQ9.out.inv.p.most))
  obtain ⟨wB, hwB⟩ : ∃ wB, w11.alloc (.cells #[.int .i64 (hasK z.p 6), .int .i64 z.s.total, .int .i64 z.p.supply] 71) = wB := ⟨_, rfl⟩
  have bB : Below w10.heap.size w10 wB := by rw [← hwB]; exact hb11.alloc hb11.size _
  have B13 : RowAt w11.heap.size 71 [.int .i64 (hasK z.p 6), .int .i64 z.s.total, .int .i64 z.p.supply] wB := by rw [← hwB]; exact RowAt.new _ _ _
  have HTB := Lib.hid (HT10.out.next bB)
  have HOB := Lib.hid (RdI.of_own (ownsRow_other HOW10.out (fun g hg => bB.block g (HOW10.out.lt g hg).2) (w' := wB)))
  have HXBB := Lib.hid (RdI.of_own (ownsRow_other HX10.out (fun g hg => bB.block g (HX10.out.lt g hg).2) (w' := wB)))
  have H12B := Lib.hid (H1210.out.below bB H1210.out.lt)
  have H13 := Lib.hid B13
  have hz11 := hb11.size
  clear bB B13 hb11
  unfold sumsV
  go_wp2_with fail
  have HCL := Lib.hid (fun wx (b : Below wB.heap.size wB wx) => show wx.cell? ⟨w11.heap.size, 0, none⟩ = some (.int .i64 (hasK z.p 6)) ∧ wx.cell? ⟨w11.heap.size, 1, none⟩ = some (.int .i64 z.s.total) ∧ wx.cell? ⟨w11.heap.size, 2, none⟩ = some (.int .i64 z.p.supply) from ⟨(H13.out.below b H13.out.lt).cell 0, (H13.out.below b H13.out.lt).cell 1, (H13.out.below b H13.out.lt).cell 2⟩)
  have HAD := Lib.hid (fun wx (b : Below wB.heap.size wB wx) => play_Add A [1, 2, 3, 4, 5, 6, 7, 8, 9, 10] wx (K1.foot ca) ca K1 n1 sd z wx (HTB.out.a.next b).go HQ9.out.inv (by have := HQ9.out.w; have := HDL.out; have := HKLL.out; omega))
  unfold sumsV at HAD
  go_region_held3 (fun wx => wx.cell? ⟨w11.heap.size, 0, none⟩ = some (.int .i64 (hasK z.p 6)) ∧ wx.cell? ⟨w11.heap.size, 1, none⟩ = some (.int .i64 z.s.total) ∧ wx.cell? ⟨w11.heap.size, 2, none⟩ = some (.int .i64 z.p.supply))
    (exact HCL.out _ (by repeat (first | exact H2.out | exact H1.out | exact Below.refl _ _ | apply Below.drewN)))
    (first
      | (go_at_call 28; refine (ref_SameInts o1 ov len oc1 cv ansZ _ (HOB.out.below ((Below.refl _ _).drewN _)) (HXBB.out.below ((Below.refl _ _).drewN _))).mono ?_; rintro e wa ⟨rfl, hd⟩; have H1 := Lib.hid (((Below.refl wB.heap.size wB).drewN _).trans (hd.below.mono (Nat.le_refl _))))
      | (go_at_call 53; refine (HAD.out _ (by repeat (first | exact H1.out | exact Below.refl _ _ | apply Below.drewN))).mono ?_; rintro e wc ⟨rfl, hd⟩; have H2 := Lib.hid (btrans (show Below wB.heap.size wB _ by repeat (first | exact H1.out | exact Below.refl _ _ | apply Below.drewN)) hd)))
  have HTC := Lib.hid (HTB.out.next H2.out)
  have r12 := H12B.out.below H2.out H12B.out.lt
  have r13 := H13.out.below H2.out H13.out.lt
  have a0 := r12.cell 0
  have a1 := r12.cell 1
  have a2 := r12.cell 2
  have e0 := r13.cell 0
  have e1 := r13.cell 1
  have e2 := r13.cell 2
  clear r12 r13
  have q1 := HQY.out
  have q2 := HQZ.out
  have HB1 := HQYB.out
  have HB2 := HQZB.out
  go_wp2_with fail
  refine (chain_Level HTC.out.a.go).mono ?_
  rintro e w13 ⟨rfl, rfl⟩
  go_wp2_with fail
  refine (chain_Level HTC.out.b.go).mono ?_
  rintro e w13 ⟨rfl, rfl⟩
  go_wp2_with fail
  go_ret
  exact ⟨rfl, btrans HB0.out HTC.out.a.below⟩

set_option maxRecDepth 8000 in
set_option maxHeartbeats 1000000 in
theorem again_bad1 (A : Nat → Addr) (sd : Nat) (ao : Option Addr) (len cap : Nat) (cut : Int) (w : World) (HS : Sents A w) (h1 : 250 < len) :
    Calls Tryz.prog 9 #[.int .u64 sd, .slice ao len cap, .int .i64 cut] w fun e w' => e = .returned (.bool true) ∧ Below w.heap.size w w' := by
  have d1 : decide ((250 : Int) < (len : Int)) = true := by simp; omega
  have HSS := Lib.hid HS; clear HS
  clear h1
  go_enter Tryz.func9, Tryz.ntmps9
  go_wp2_with fail
  refine (law_played A _ HSS.out).mono ?_
  rintro e w0 ⟨rfl, hb0⟩
  have HB0 := Lib.hid hb0; clear hb0
  go_wp2_with fail
  go_ret
  exact ⟨rfl, HB0.out⟩

set_option maxRecDepth 8000 in
set_option maxHeartbeats 1000000 in
theorem again_bad2 (A : Nat → Addr) (sd : Nat) (ao : Option Addr) (len cap : Nat) (cut : Int) (w : World) (HS : Sents A w) (h1 : len ≤ 250) (h2 : cut < 0) :
    Calls Tryz.prog 9 #[.int .u64 sd, .slice ao len cap, .int .i64 cut] w fun e w' => e = .returned (.bool true) ∧ Below w.heap.size w w' := by
  have d1 : decide ((250 : Int) < (len : Int)) = false := by simp; omega
  have d2 : decide (cut < 0) = true := by simp; omega
  have HSS := Lib.hid HS; clear HS
  clear h1 h2
  go_enter Tryz.func9, Tryz.ntmps9
  go_wp2_with fail
  refine (law_played A _ HSS.out).mono ?_
  rintro e w0 ⟨rfl, hb0⟩
  have HB0 := Lib.hid hb0; clear hb0
  go_wp2_with fail
  go_ret
  exact ⟨rfl, HB0.out⟩

set_option maxRecDepth 8000 in
set_option maxHeartbeats 1000000 in
theorem again_bad3 (A : Nat → Addr) (sd : Nat) (ao : Option Addr) (len cap : Nat) (cut : Int) (w : World) (HS : Sents A w) (h1 : len ≤ 250) (h2 : 0 ≤ cut) (h3 : len < cut) :
    Calls Tryz.prog 9 #[.int .u64 sd, .slice ao len cap, .int .i64 cut] w fun e w' => e = .returned (.bool true) ∧ Below w.heap.size w w' := by
  have d1 : decide ((250 : Int) < (len : Int)) = false := by simp; omega
  have d2 : decide (cut < 0) = false := by simp; omega
  have d3 : decide ((len : Int) < cut) = true := by simp; omega
  have HSS := Lib.hid HS; clear HS
  clear h1 h2 h3
  go_enter Tryz.func9, Tryz.ntmps9
  go_wp2_with fail
  refine (law_played A _ HSS.out).mono ?_
  rintro e w0 ⟨rfl, hb0⟩
  have HB0 := Lib.hid hb0; clear hb0
  go_wp2_with fail
  go_ret
  exact ⟨rfl, HB0.out⟩

theorem again_all (A : Nat → Addr) (sd : Nat) (hs : sd < 18446744073709551616) (ao : Option Addr) (len cap : Nat) (zs : List Int) (cut : Int) (w : World) (HS : Sents A w) (R : RdI .i64 w ao len cap zs) (hwf : ∀ v ∈ zs, v ≤ 9223372036854775807) :
    Calls Tryz.prog 9 #[.int .u64 sd, .slice ao len cap, .int .i64 cut] w fun e w' => e = .returned (.bool true) ∧ Below w.heap.size w w' := by
  by_cases h1 : len ≤ 250
  · by_cases h2 : 0 ≤ cut
    · by_cases h3 : cut ≤ len
      · exact again_good A sd hs ao len cap zs cut w HS R hwf h1 h2 h3
      · exact again_bad3 A sd ao len cap cut w HS h1 h2 (by omega)
    · exact again_bad2 A sd ao len cap cut w HS h1 (by omega)
  · exact again_bad1 A sd ao len cap cut w HS (by omega)
end Go.Proofs.YtajnfkmkombajacGreatDoor
