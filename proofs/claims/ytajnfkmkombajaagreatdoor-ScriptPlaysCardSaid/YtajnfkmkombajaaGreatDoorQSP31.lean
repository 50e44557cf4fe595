/-
  Contracts of the document's WeightsFault and Draw.Pick.
  Contracts of the document's lots: Next, Below, MixOf.
  Contract of the document's BakerOf.
-/
import Derived.Test.YtajnfkmkombajaaGreatDoorQSP30
import Derived.Test.YtajnfkmkombajaaGreatDoorQSP17
set_option linter.unusedVariables false
set_option linter.unusedSimpArgs false
set_option linter.unusedVariables false
namespace Go.Proofs.YtajnfkmkombajaaGreatDoor
open Go.RowKit
def WFaultPost (l : List Int) (w : World) (e : Ending) (w' : World) : Prop := e = .returned (.agg #[.int .i64 (weightsF l).1, .int .i64 (weightsF l).2]) ∧ Below w.heap.size w w'
theorem wfault_close {l : List Int} {w W : World} {c : Nat} {k : Int} (h : weightsF l = (c, k)) (hb : Below w.heap.size w W) : WFaultPost l w (.returned (.agg #[.int .i64 c, .int .i64 k])) W := by
 unfold WFaultPost; rw [h]; exact ⟨rfl, hb⟩
theorem badW_false {x : Int} : badW x = false ↔ 0 ≤ x ∧ x ≤ 1073741824 := by unfold badW; simp
theorem take_sum_bd (l : List Int) : ∀ k, k ≤ 64 → (∀ j, j < k → badW (l.getD j 0) = false) → 0 ≤ (l.take k).sum ∧ (l.take k).sum ≤ 1073741824 * (k : Int)
 | 0, _, _ => by simp
 | k + 1, hk, h => by
   have ih := take_sum_bd l k (by omega) (fun j hj => h j (by omega))
   have hx := badW_false.1 (h k (by omega))
   by_cases hl : k < l.length
   · have e : l.take (k + 1) = l.take k ++ [l.getD k 0] := by
       rw [List.take_succ_eq_append_getElem hl]; simp [hl]
     rw [e]; simp only [List.sum_append, List.sum_cons, List.sum_nil]; omega
   · rw [List.take_of_length_le (by omega)]; rw [List.take_of_length_le (by omega)] at ih; omega
theorem take_sum_succ {l : List Int} {k : Nat} (hl : k < l.length) : (l.take (k + 1)).sum = (l.take k).sum + l.getD k 0 := by
 rw [List.take_succ_eq_append_getElem hl, List.sum_append]; simp [hl]
set_option maxHeartbeats 2000000 in
set_option maxRecDepth 8000 in
theorem ref_WeightsFault (ao : Option Addr) (len cap : Nat) (l : List Int) (w : World) (R : RdI .i64 w ao len cap l) :
   Calls Tryz.prog 67 #[.slice ao len cap] w (WFaultPost l w) := by
 have hfl : ∀ x : Nat, x = w.heap.size → True := fun _ _ => trivial
 clear hfl
 by_cases hlen : len < 1 ∨ 64 < len
 · have HF := Lib.hid (show weightsF l = (3, -1) by unfold weightsF; rw [if_pos (by rw [R.size]; exact hlen)])
   clear R
   by_cases h1 : len < 1
   · have e1 : decide ((len : Int) < 1) = true := by simp; omega
     clear hlen
     go_enter Tryz.func67, Tryz.ntmps67
     go_wp2_with (go_at_call 66; refine (ref_Bare _ _).mono ?_; rintro e w' ⟨rfl, rfl⟩)
     (try simp only [Exit.inBlock, Exit.then])
     refine bodyPost_ret (v := .agg #[.int .i64 3, .int .i64 (-1)]) (ret_pair rfl _ _ w.heap.size _ _ _ _ _ rfl (by first | exact heap_two _ _ _ | exact heap_drewN _ _ _ | exact heap_drewN2 _ _ _ _ | exact heap_alloc_new _ _) Tryz.underlying65 rfl (by kernel_rfl)) rfl (wfault_close (c := 3) HF.out (((Below.refl _ _).alloc (Nat.le_refl _) _).alloc (by simp) _))
   · have e1 : decide ((len : Int) < 1) = false := by simp; omega
     have e2 : decide ((64 : Int) < (len : Int)) = true := by simp; omega
     clear hlen
     go_enter Tryz.func67, Tryz.ntmps67
     go_wp2_with (go_at_call 66; refine (ref_Bare _ _).mono ?_; rintro e w' ⟨rfl, rfl⟩)
     (try simp only [Exit.inBlock, Exit.then])
     refine bodyPost_ret (v := .agg #[.int .i64 3, .int .i64 (-1)]) (ret_pair rfl _ _ w.heap.size _ _ _ _ _ rfl (by first | exact heap_two _ _ _ | exact heap_drewN _ _ _ | exact heap_drewN2 _ _ _ _ | exact heap_alloc_new _ _) Tryz.underlying65 rfl (by kernel_rfl)) rfl (wfault_close (c := 3) HF.out (((Below.refl _ _).alloc (Nat.le_refl _) _).alloc (by simp) _))
 · rcases R.split with ⟨h0, _⟩ | ⟨h0, b, off, rfl, hb, hcell⟩
   · omega
   have e1 : decide ((len : Int) < 1) = false := by simp; omega
   have e2 : decide ((64 : Int) < (len : Int)) = false := by simp; omega
   have hl8 : (len : Int) ≤ 64 := by omega
   have HBad := Lib.hid (fun (h : 0 ≤ firstBad l) => (show weightsF l = (2, firstBad l) by unfold weightsF; rw [if_neg (by rw [R.size]; exact hlen), if_pos h]))
   have HEnd := Lib.hid (fun (h : firstBad l = -1) => (show weightsF l = if l.sum = 0 then (4, -1) else (0, -1) by unfold weightsF; rw [if_neg (by rw [R.size]; exact hlen), if_neg (by omega)]))
   have Hc := Lib.hid hcell; clear hcell
   have HR := Lib.hid R.size; clear R
   clear hlen
   go_enter Tryz.func67, Tryz.ntmps67
   go_wp2
   go_loop [3, 4] (fun t i => ∃ k : Nat, k ≤ len ∧ i = .int .i64 k ∧ t = .int .i64 (l.take k).sum ∧ ∀ j, j < k → badW (l.getD j 0) = false) (fun _ i => len - (intOf i).toNat)
   case atStart => exact ⟨0, Nat.zero_le _, rfl, rfl, fun j hj => by omega⟩
   case round =>
     obtain ⟨k, hk, rfl, rfl, hgood⟩ := hrel
     have hsum := take_sum_bd l k (by omega) hgood
     have hsu : (l.take k).sum ≤ 68719476736 := by omega
     have HG := Lib.hid hgood; clear hgood
     by_cases hlt : k < len
     · have c1 := Hc.out k hlt
       have hllen : k < l.length := by rw [HR.out]; exact hlt
       have HS := Lib.hid (take_sum_succ hllen)
       have HB2 := Lib.hid (fun (hb : badW (l.getD k 0) = true) => findIdx_here hllen hb HG.out)
       have HG2 := Lib.hid (fun (hb : badW (l.getD k 0) = false) j (hj : j < k + 1) => (by
         by_cases e : j = k
         · rw [e]; exact hb
         · exact HG.out j (by omega) : badW (l.getD j 0) = false))
       generalize l.getD k 0 = x at *
       generalize (l.take k).sum = T at *
       clear hllen
       have hx : x < 0 ∨ (0 ≤ x ∧ 1073741824 < x) ∨ (0 ≤ x ∧ x ≤ 1073741824) := by omega
       rcases hx with hx | ⟨hx, hx2⟩ | ⟨hx, hx2⟩
       · have HF := Lib.hid (HB2.out (by unfold badW; simp; omega))
         go_wp2
         (try simp only [Exit.inBlock, Exit.then])
         refine bodyPost_ret (v := .agg #[.int .i64 2, .int .i64 k]) (ret_pair rfl _ _ w.heap.size _ _ _ _ _ rfl (by first | exact heap_two _ _ _ | exact heap_drewN _ _ _ | exact heap_drewN2 _ _ _ _ | exact heap_alloc_new _ _) Tryz.underlying65 rfl (by kernel_rfl)) rfl (wfault_close (c := 2) (by rw [HBad.out (by rw [HF.out]; omega), HF.out]) (((Below.refl _ _).alloc (Nat.le_refl _) _)))
       · have HF := Lib.hid (HB2.out (by unfold badW; simp; omega))
         go_wp2
         (try simp only [Exit.inBlock, Exit.then])
         refine bodyPost_ret (v := .agg #[.int .i64 2, .int .i64 k]) (ret_pair rfl _ _ w.heap.size _ _ _ _ _ rfl (by first | exact heap_two _ _ _ | exact heap_drewN _ _ _ | exact heap_drewN2 _ _ _ _ | exact heap_alloc_new _ _) Tryz.underlying65 rfl (by kernel_rfl)) rfl (wfault_close (c := 2) (by rw [HBad.out (by rw [HF.out]; omega), HF.out]) (((Below.refl _ _).alloc (Nat.le_refl _) _)))
       · have HF := Lib.hid (HG2.out (badW_false.2 ⟨hx, hx2⟩))
         go_wp2
         go_round
         case rel => exact ⟨k + 1, by omega, by go_num, by rw [HS.out], HF.out⟩
         case measure => simp [intOf]; omega
     · have hkl : k = len := by omega
       subst hkl
       have HS := Lib.hid (show (l.take k).sum = l.sum by rw [List.take_of_length_le (by rw [HR.out]; omega)])
       have HF := Lib.hid (HEnd.out (findIdx_none (by rw [HR.out]; exact HG.out)))
       generalize (l.take k).sum = T at *
       by_cases hT : T = 0
       · have hz : (T == 0) = true := by simp [hT]
         have HF2 := Lib.hid (show weightsF l = (4, -1) by rw [HF.out, if_pos (by rw [← HS.out]; exact hT)])
         clear hT
         go_wp2_with (go_at_call 66; refine (ref_Bare _ _).mono ?_; rintro e w' ⟨rfl, rfl⟩)
         (try simp only [Exit.inBlock, Exit.then])
         refine bodyPost_ret (v := .agg #[.int .i64 4, .int .i64 (-1)]) (ret_pair rfl _ _ w.heap.size _ _ _ _ _ rfl (by first | exact heap_two _ _ _ | exact heap_drewN _ _ _ | exact heap_drewN2 _ _ _ _ | exact heap_alloc_new _ _) Tryz.underlying65 rfl (by kernel_rfl)) rfl (wfault_close (c := 4) HF2.out (((Below.refl _ _).alloc (Nat.le_refl _) _).alloc (by simp) _))
       · have hz : (T == 0) = false := by simp [hT]
         have HF2 := Lib.hid (show weightsF l = (0, -1) by rw [HF.out, if_neg (by rw [← HS.out]; exact hT)])
         clear hT
         go_wp2_with (go_at_call 128; refine (ref_Fine _).mono ?_; rintro e w' ⟨rfl, rfl⟩)
         (try simp only [Exit.inBlock, Exit.then])
         refine bodyPost_ret (v := .agg #[.int .i64 0, .int .i64 (-1)]) (ret_pair rfl _ _ w.heap.size _ _ _ _ _ rfl (by first | exact heap_two _ _ _ | exact heap_drewN _ _ _ | exact heap_drewN2 _ _ _ _ | exact heap_alloc_new _ _) Tryz.underlying65 rfl (by kernel_rfl)) rfl (wfault_close (c := 0) HF2.out (((Below.refl _ _).alloc (Nat.le_refl _) _).alloc (by simp) _))
section
variable {db lb ob : Nat} {zs : List Int} {w w' : World}
theorem RDrawAt.high (h : RDrawAt db lb ob zs w) : w.cell? ⟨db, 0, none⟩ = some (.int .i64 zs.sum) := by rw [h.d.cell]; rfl
theorem RDrawAt.lcell (h : RDrawAt db lb ob zs w) : w.cell? ⟨db, 1, none⟩ = some (.slice (some ⟨lb, 0, none⟩) zs.length zs.length) := by rw [h.d.cell]; rfl
theorem RDrawAt.ocell (h : RDrawAt db lb ob zs w) : w.cell? ⟨db, 2, none⟩ = some (.slice (some ⟨ob, 0, none⟩) zs.length zs.length) := by rw [h.d.cell]; rfl
theorem RDrawAt.line (h : RDrawAt db lb ob zs w) (hz : ∀ x ∈ zs, 0 ≤ x) {k : Nat} (hk : k < zs.length) : w.cell? ⟨lb, k, none⟩ = some (.int .i64 ((vose zs).getD k (0, 0)).1) := by
 have hl : k < (vose zs).length := by rw [(vose_just zs hz).size]; exact hk
 rw [h.l.cell, intVs_get (by rw [List.length_map]; exact hl)]; simp [hl]
theorem RDrawAt.other (h : RDrawAt db lb ob zs w) (hz : ∀ x ∈ zs, 0 ≤ x) {k : Nat} (hk : k < zs.length) : w.cell? ⟨ob, k, none⟩ = some (.int .i64 ((vose zs).getD k (0, 0)).2) := by
 have hl : k < (vose zs).length := by rw [(vose_just zs hz).size]; exact hk
 rw [h.o.cell, intVs_get (by rw [List.length_map]; exact hl)]; simp [hl]
theorem RDrawAt.below (h : RDrawAt db lb ob zs w) (k : Below w.heap.size w w') : RDrawAt db lb ob zs w' := ⟨h.d.below k h.d.lt, h.l.below k h.l.lt, h.o.below k h.o.lt⟩
theorem RDrawAt.keep {F : Nat → Prop} (h : RDrawAt db lb ob zs w) (k : Keep F w w') (h1 : ¬ F db) (h2 : ¬ F lb) (h3 : ¬ F ob) : RDrawAt db lb ob zs w' := ⟨h.d.keep k h1, h.l.keep k h2, h.o.keep k h3⟩
end
theorem refd_Pick (db lb ob : Nat) (zs : List Int) (c : Nat) (a : Int) (w : World) (h : RDrawAt db lb ob zs w) (hz : ∀ x ∈ zs, 0 ≤ x) (hc : c < zs.length) :
   Calls Tryz.prog 71 #[.pointer (some ⟨db, 0, none⟩), .int .i64 c, .int .i64 a] w fun e w' => e = .returned (.int .i64 (pickOf (vose zs) c a)) ∧ w = w' := by
 have q1 := h.lcell
 have q2 := h.ocell
 have q3 := h.line hz hc
 have q4 := h.other hz hc
 have HP := Lib.hid (show pickOf (vose zs) c a = if a < ((vose zs).getD c (0, 0)).1 then (c : Int) else ((vose zs).getD c (0, 0)).2 from rfl)
 generalize ((vose zs).getD c (0, 0)).1 = x at *
 generalize ((vose zs).getD c (0, 0)).2 = y at *
 generalize pickOf (vose zs) c a = p at *
 generalize zs.length = n at *
 clear h hz
 by_cases hx : a < x
 · have HX := Lib.hid (show p = (c : Int) by rw [HP.out, if_pos hx])
   go_enter Tryz.func71, Tryz.ntmps71
   go_wp2
   go_ret
   exact ⟨by rw [HX.out]; rfl, rfl⟩
 · have HX := Lib.hid (show p = y by rw [HP.out, if_neg hx])
   go_enter Tryz.func71, Tryz.ntmps71
   go_wp2
   go_ret
   exact ⟨by rw [HX.out]; rfl, rfl⟩
end Go.Proofs.YtajnfkmkombajaaGreatDoor
namespace Go.Proofs.YtajnfkmkombajaaGreatDoor
open Go.RowKit
theorem wrap_tdiv (y c : Int) (hc : 1 ≤ c) : IntKind.u64.wrap ((IntKind.u64.wrap y).tdiv c) = IntKind.u64.wrap y / c := by
 have hb : 0 ≤ IntKind.u64.wrap y ∧ IntKind.u64.wrap y < 18446744073709551616 := by rw [IntKind.wrap_u64]; omega
 generalize IntKind.u64.wrap y = x at *
 rw [Int.tdiv_eq_ediv_of_nonneg hb.1, IntKind.wrap_u64]
 have h1 : 0 ≤ x / c := Int.ediv_nonneg hb.1 (by omega)
 have h2 : x / c ≤ x := Int.ediv_le_self _ hb.1
 omega
set_option maxRecDepth 8000 in
theorem refl_Next (b : Nat) (s : Int) (w : World) (hc : w.cell? ⟨b, 0, none⟩ = some (.int .u64 s)) (hf : w.frozen? ⟨b, 0, none⟩ = false) :
   Calls Tryz.prog 129 #[.pointer (some ⟨b, 0, none⟩)] w fun e w' => e = .returned (.int .u64 (lotOut (lotAdv s))) ∧ w.setCell ⟨b, 0, none⟩ (.int .u64 (lotAdv s)) = w' := by
 have t1 := fun y => wrap_tdiv y 1073741824 (by decide)
 have t2 := fun y => wrap_tdiv y 134217728 (by decide)
 have t3 := fun y => wrap_tdiv y 2147483648 (by decide)
 go_enter Tryz.func129, Tryz.ntmps129
 go_wp2
 go_ret
 exact ⟨rfl, rfl⟩
def RLotsAt (b : Nat) (s : Nat) (w : World) : Prop := RowAt b 134 [.int .u64 (s : Int)] w
theorem RLotsAt.cell {b s : Nat} {w : World} (h : RLotsAt b s w) : w.cell? ⟨b, 0, none⟩ = some (.int .u64 (s : Int)) := (RowAt.cell h 0).trans rfl
theorem RLotsAt.frozen {b s : Nat} {w : World} (h : RLotsAt b s w) : w.frozen? ⟨b, 0, none⟩ = false := RowAt.frozen h 0
theorem RLotsAt.put {b s t : Nat} {w : World} (h : RLotsAt b s w) : RLotsAt b t (w.setCell ⟨b, 0, none⟩ (.int .u64 (t : Int))) := RowAt.set h 0 _
theorem RLotsAt.keep {F : Nat → Prop} {b s : Nat} {w w' : World} (h : RLotsAt b s w) (k : Keep F w w') (hF : ¬ F b) : RLotsAt b s w' := RowAt.keep h k hF
theorem w64_in (x : Int) (h0 : -9223372036854775808 ≤ x) (h1 : x ≤ 9223372036854775807) : wrap64 x = x := by unfold wrap64; omega
theorem u64_in (x : Int) (h0 : 0 ≤ x) (h1 : x < 18446744073709551616) : IntKind.u64.wrap x = x := by rw [IntKind.wrap_u64]; omega
theorem below_facts (z n : Nat) (hz : z < 18446744073709551616) (h1 : 1 ≤ n) (h2 : n ≤ 1125899906842624) : ∃ h m : Nat, h = z / 2 ∧ m = h % n ∧ IntKind.u64.wrap ((z : Int) / 2) = (h : Int) ∧ (h : Int).tmod (n : Int) = (m : Int) ∧ (h : Int) % (n : Int) = (m : Int) ∧
   wrap64 (h : Int) = (h : Int) ∧ wrap64 (m : Int) = (m : Int) ∧ wrap64 ((h : Int) - (m : Int)) = (h : Int) - (m : Int) ∧ wrap64 (9223372036854775807 - (n : Int)) = 9223372036854775807 - (n : Int) ∧ wrap64 (9223372036854775807 - (n : Int) + 1) = 9223372036854775807 - (n : Int) + 1 ∧
   ((h : Int) - (m : Int) ≤ 9223372036854775807 - (n : Int) + 1 ↔ h < endB n) := by
 obtain ⟨h, hh⟩ : ∃ h : Nat, h = z / 2 := ⟨_, rfl⟩
 have hb : h ≤ 9223372036854775807 := by omega
 have hW := whole_stretch (z := h) h1 h2 (by omega)
 obtain ⟨m, hm⟩ : ∃ m : Nat, m = h % n := ⟨_, rfl⟩
 have hmh : m ≤ h := by rw [hm]; exact Nat.mod_le _ _
 rw [← hm] at hW
 refine ⟨h, m, hh, hm, by rw [half_int, ← hh]; exact u64_in _ (by omega) (by omega), by rw [Int.tmod_eq_emod_of_nonneg (by omega), hm, Int.natCast_emod], by rw [hm, Int.natCast_emod], ?_, ?_, ?_, ?_, ?_, ?_⟩
 · clear hW hm; exact w64_in _ (by omega) (by omega)
 · clear hW hm; exact w64_in _ (by omega) (by omega)
 · clear hW hm; exact w64_in _ (by omega) (by omega)
 · clear hW hm; exact w64_in _ (by omega) (by omega)
 · clear hW hm; exact w64_in _ (by omega) (by omega)
 · rw [← hW]; clear hW hm; omega
set_option maxRecDepth 8000 in
set_option maxHeartbeats 400000 in
theorem refl_Below (b s n : Nat) (w : World) (hs : s < 18446744073709551616) (h0 : 1 ≤ n) (h1 : n ≤ 1125899906842624) (hl : RLotsAt b s w) :
   Calls Tryz.prog 70 #[.pointer (some ⟨b, 0, none⟩), .int .i64 n] w fun e w' => e = .returned (.int .i64 (belowN s n)) ∧ Keep (· = b) w w' ∧ RLotsAt b (belowS s n) w' := by
 have hF := firstLot_is hs h0 h1
 have HN := Lib.hid (show belowN s n = lotHalf s (firstLot s n) % n from rfl)
 have HS := Lib.hid (show belowS s n = lotSt s (firstLot s n) from rfl)
 have HL := Lib.hid hl
 have Hst0 := Lib.hid (lotSt_zero hs)
 generalize firstLot s n = J at *
 have HJ := Lib.hid hF
 have hJ1 := hF.one
 have i1 : (1 : Int) ≤ (n : Int) := by omega
 have i2 : (n : Int) ≤ 1125899906842624 := by omega
 clear hF hs hl h0 h1
 go_enter Tryz.func70, Tryz.ntmps70
 go_wp2_with fail
 go_loopg [4] J (fun g _ wr => ∃ i : Nat, g + i = J ∧ i < J ∧ RLotsAt b (lotSt s i) wr ∧ Keep (· = b) w wr)
 case atStart => exact ⟨0, by omega, by omega, by rw [Hst0.out]; exact HL.out, Keep.refl _ _⟩
 case round =>
   clear HL Hst0
   obtain ⟨i, hg, hi, hl, hk⟩ := hrel
   have hG := Lib.hid hg; clear hg
   have hc := hl.cell
   have hf := hl.frozen
   have H1 := Lib.hid (lotSt_succ s i)
   have H2 := Lib.hid (lotOut_nat (lotSt s (i + 1)) (lotSt_lt _ _))
   have hnew := Lib.hid (hl.put (t := lotSt s (i + 1)))
   have HK := Lib.hid (hk.put (.int .u64 (lotSt s (i + 1) : Int)) (o := 0))
   have H3 := Lib.hid (show lotHalf s (i + 1) = lotN (lotSt s (i + 1)) / 2 from rfl)
   have hzl := lotN_lt (lotSt s (i + 1))
   have hnx := Lib.hid (refl_Next b (lotSt s i : Int) wr hc hf)
   clear hl hk hc hf
   obtain ⟨h, m, hh, hm, s1, s2, s3, s6, s7, s8, s4, s5, hiff⟩ := below_facts (lotN (lotSt s (i + 1))) n hzl (by omega) (by omega)
   have hcase : (i + 1 = J ∧ h < endB n) ∨ (i + 1 < J ∧ ¬ h < endB n) := by
     clear s1 s2 s3 s4 s5 s6 s7 s8 hiff hm
     by_cases hend : i + 1 = J
     · left; have := HJ.out.fits; rw [← hend, H3.out, ← hh] at this; exact ⟨hend, this⟩
     · right; have := HJ.out.first (i + 1) (by omega) (by omega); rw [H3.out, ← hh] at this; exact ⟨by omega, by omega⟩
   rw [← hiff] at hcase
   clear hiff
   have HM := Lib.hid (show lotHalf s (i + 1) % n = m by rw [H3.out, ← hh, ← hm])
   generalize lotN (lotSt s (i + 1)) = z at *
   rcases hcase with ⟨hend, hfit⟩ | ⟨hend, hfit⟩
   · have dl : decide ((h : Int) - (m : Int) ≤ 9223372036854775807 - (n : Int) + 1) = true := decide_eq_true hfit
     subst hend
     have HN2 := Lib.hid (show belowN s n = m by rw [HN.out, HM.out])
     have HS2 := Lib.hid (show belowS s n = lotSt s (i + 1) by rw [HS.out])
     clear hfit hzl hh hm
     go_wp2_with fail
     refine hnx.out.mono ?_
     rintro e w' ⟨rfl, rfl⟩
     rw [H1.out, H2.out]
     go_wp2_with fail
     go_ret
     refine ⟨?_, HK.out, by rw [HS2.out]; exact hnew.out⟩
     rw [HN2.out]
     rfl
   · have dl : decide ((h : Int) - (m : Int) ≤ 9223372036854775807 - (n : Int) + 1) = false := decide_eq_false hfit
     clear hfit hzl hh hm
     go_wp2_with fail
     refine hnx.out.mono ?_
     rintro e w' ⟨rfl, rfl⟩
     rw [H1.out, H2.out]
     go_wp2_with fail
     have hg := hG.out
     go_roundg (J - (i + 1))
     case measure => omega
     case rel => exact ⟨i + 1, by omega, by omega, hnew.out, HK.out⟩
theorem refl_Next_new (s : Int) (w : World) :
   Calls Tryz.prog 129 #[.pointer (some ⟨w.heap.size, 0, none⟩)] (w.alloc (.cells #[.int .u64 s] 134)) fun e w' => e = .returned (.int .u64 (lotOut (lotAdv s))) ∧ w.alloc (.cells #[.int .u64 (lotAdv s)] 134) = w' :=
 (refl_Next w.heap.size s _ (by simp) (by simp)).mono fun e w' ⟨he, hw⟩ => ⟨he, by rw [← hw, World.setCell_alloc_new]; rfl⟩
set_option maxRecDepth 8000 in
theorem ref_MixOf (s : Int) (ao : Option Addr) (len cap : Nat) (zs : List Int) (w : World) (R : RdI .i64 w ao len cap zs) :
   Calls Tryz.prog 69 #[.int .u64 s, .slice ao len cap] w fun e w' => e = .returned (.int .u64 (mixL s zs)) ∧ Below w.heap.size w w' := by
 have hlen := R.size
 have hm : len ≤ 9223372036854775807 := by have := R.lc; have := R.cm; unfold maxLen at *; omega
 have Hl := Lib.hid hlen; have HR := Lib.hid R
 clear hlen R
 go_enter Tryz.func69, Tryz.ntmps69
 go_wp2_with fail
 go_loopw [0, 5] (fun t i wr => ∃ k : Nat, k ≤ len ∧ i = .int .i64 k ∧ t = .int .u64 (mixL s (zs.take k)) ∧ Below w.heap.size w wr) (fun _ i _ => len - (intOf i).toNat)
 case atStart => exact ⟨0, Nat.zero_le _, rfl, rfl, Below.refl _ _⟩
 case round =>
   obtain ⟨k, hk, rfl, rfl, hbel⟩ := hrel
   by_cases hlt : k < len
   · obtain ⟨b, off, ha, hck⟩ := (HR.out.below hbel).cells k hlt
     have Ha := Lib.hid ha; clear ha
     have := Ha.out; subst this
     have hts : mixL s (zs.take (k + 1)) = mix1 (mixL s (zs.take k)) (zs.getD k 0) := by
       rw [List.take_succ_eq_append_getElem (by rw [Hl.out]; exact hlt), mixL_snoc]; simp [Hl.out, hlt]
     have Ht := Lib.hid hts; clear hts
     generalize zs.getD k 0 = z at *
     go_wp2_with (first | (go_at_call 129; refine (refl_Next_new _ _).mono ?_; rintro e w' ⟨rfl, rfl⟩))
     go_roundw
     case rel => exact ⟨k + 1, by omega, by go_num, by rw [Ht.out]; rfl, hbel.alloc hbel.size _⟩
     case measure => simp [intOf]; omega
   · go_wp2
     go_ret
     exact ⟨by rw [List.take_of_length_le (by rw [Hl.out]; omega)]; rfl, hbel⟩
end Go.Proofs.YtajnfkmkombajaaGreatDoor
namespace Go.Proofs.YtajnfkmkombajaaGreatDoor
open Go.RowKit
theorem ret_num_pair {P : Program} {fn : Func} {u p : Tmp} {ty : TypeId} (h : fn.results = #[.tmp u, .cell p ty]) (tmps : Array Value) (w : World) (g : Nat) (t : TypeId) (x y z : Value) (fr : Nat × Nat) (d : TypeDesc)
   (hz : tmps.getD u undef = z) (hp : tmps.getD p undef = .pointer (some ⟨g, 0, none⟩)) (hg : w.heap[g]? = some (.cells #[x, y] t fr))
   (hu : P.underlying ty = some d) (hd : (match d with | .struct _ | .array _ _ => true | _ => false) = true) (hi : (P.info? ty).map (·.size) = some 2) :
   (results fn tmps).run P w = .ok (.tuple #[z, .agg #[x, y]]) w := by
 have hp' : tmps[p]?.getD undef = .pointer (some ⟨g, 0, none⟩) := by simpa using hp
 have hz' : tmps[u]?.getD undef = z := by simpa using hz
 simp [results, h, hp', hz', asAddr, run_loadVar_row w g t ty #[x, y] fr d hg hu hd hi, Result.andThen]
def BakerOfPost (zs : List Int) (s c l r : Int) (w : World) (e : Ending) (w' : World) : Prop :=
 e = .returned (.tuple #[.int .i64 (if (bakerF zs c l r).1 = 0 then bakerV zs s c l r else 0), .agg #[.int .i64 (bakerF zs c l r).1, .int .i64 (bakerF zs c l r).2]]) ∧ Below w.heap.size w w'
theorem bakerOf_bad {zs : List Int} {s c l r : Int} {k : Nat} {a : Int} {w W : World} (h : bakerF zs c l r = (k, a)) (hk : k ≠ 0) (hb : Below w.heap.size w W) : BakerOfPost zs s c l r w (.returned (.tuple #[.int .i64 0, .agg #[.int .i64 k, .int .i64 a]])) W := by
 unfold BakerOfPost; rw [h, if_neg hk]; exact ⟨rfl, hb⟩
theorem bakerOf_ok {zs : List Int} {s c l r v : Int} {w W : World} (h : bakerF zs c l r = (0, -1)) (hv : bakerV zs s c l r = v) (hb : Below w.heap.size w W) : BakerOfPost zs s c l r w (.returned (.tuple #[.int .i64 v, .agg #[.int .i64 0, .int .i64 (-1)]])) W := by
 unfold BakerOfPost; rw [h, if_pos rfl, hv]; exact ⟨rfl, hb⟩
structure BO (w0 : World) (g0 g1 : Nat) (w : World) : Prop where
 below : Below w0.heap.size w0 w
 r0 : RowAt g0 65 [.int .i64 0, .int .i64 0] w
 r1 : RowAt g1 65 [.int .i64 0, .int .i64 (-1)] w
 n0 : w0.heap.size ≤ g0
 n1 : w0.heap.size ≤ g1
theorem BO.next {w0 w w' : World} {g0 g1 : Nat} (h : BO w0 g0 g1 w) (k : Below w.heap.size w w') : BO w0 g0 g1 w' := ⟨btrans h.below k, h.r0.below k h.r0.lt, h.r1.below k h.r1.lt, h.n0, h.n1⟩
theorem BO.keep {w0 w w' : World} {g0 g1 b : Nat} (h : BO w0 g0 g1 w) (k : Keep (· = b) w w') (hb : w0.heap.size ≤ b) (h0 : g0 ≠ b) (h1 : g1 ≠ b) : BO w0 g0 g1 w' :=
 ⟨Keep.after h.below k (fun i hi => by rw [hi]; exact hb), h.r0.keep k h0, h.r1.keep k h1, h.n0, h.n1⟩
theorem BO.drewN {w0 w : World} {g0 g1 : Nat} (h : BO w0 g0 g1 w) (n : Nat) : BO w0 g0 g1 (w.drewN n) := h.next ((Below.refl _ _).drewN n)
set_option maxRecDepth 8000 in
set_option maxHeartbeats 2000000 in
theorem ref_BakerOf (ao : Option Addr) (cap : Nat) (zs : List Int) (s : Nat) (hs : s < 18446744073709551616) (c l r : Int) (w : World) (R : RdI .i64 w ao zs.length cap zs) :
   Calls Tryz.prog 46 #[.slice ao zs.length cap, .int .u64 s, .int .i64 c, .int .i64 l, .int .i64 r] w (BakerOfPost zs s c l r w) := by
 by_cases hr : roundOk c l r
 · have HF := Lib.hid (show bakerF zs c l r = weightsF zs from if_pos hr)
   obtain ⟨⟨c0, c1⟩, ⟨l0, l1⟩, ⟨r0, r1⟩⟩ := hr
   have d1 : decide (c < 0) = false := decide_eq_false (by omega)
   have d2 : decide (1048576 < c) = false := decide_eq_false (by omega)
   have d3 : decide (l < 0) = false := decide_eq_false (by omega)
   have d4 : decide (4194304 < l) = false := decide_eq_false (by omega)
   have d5 : decide (r < 0) = false := decide_eq_false (by omega)
   have d6 : decide (8 ≤ r) = false := decide_eq_false (by omega)
   obtain ⟨m, hm, hmix⟩ := mixL_nat s hs [c, l, r]
   have hseed : roundSeed s c l r = m := by unfold roundSeed; rw [hmix]; rfl
   have HR := Lib.hid R; have HM := Lib.hid hmix; have HMl := Lib.hid hm
   have HVal := Lib.hid (show bakerV zs s c l r = pickOf (vose zs) (belowN m zs.length) (belowN (belowS m zs.length) zs.sum.toNat : Nat) by unfold bakerV; rw [hseed])
   have HPick := Lib.hid (fun db lb ob k a wx hd => refd_Pick db lb ob zs k a wx hd)
   have HRN := Lib.hid (fun wx hx hw => ref_NewDraw wx ao cap zs hx hw)
   have HWF := Lib.hid (fun wx hx => ref_WeightsFault ao zs.length cap zs wx hx)
   have HH := Lib.hid (fun db lb ob wx (h : RDrawAt db lb ob zs wx) => h.high)
   clear R hmix hseed hm c0 c1 l0 l1 r0 r1 hs
   by_cases hf : (weightsF zs).1 = 0
   · obtain ⟨hwf, hl1, hl64, hz, hs1, hs2⟩ := weights_ok hf
     have HWOK := Lib.hid (show weightsOk zs from ⟨hl1, hl64, hz, hs1, hs2⟩)
     have HZ := Lib.hid (fun x hx => (hz x hx).1)
     rw [hwf] at HF
     have HWF0 := Lib.hid hwf
     have hbl := belowN_lt (s := m) hl1
     clear hwf hf hz
     generalize hn : zs.length = n at *
     have Hn := Lib.hid hn; clear hn
     obtain ⟨H, hH⟩ := Int.eq_ofNat_of_zero_le (show 0 ≤ zs.sum by omega)
     rw [hH] at hs1 hs2 HVal HH
     have HtN : (Int.ofNat H).toNat = H := rfl
     rw [show ((H : Int)).toNat = H from rfl] at HVal
     have h1H : 1 ≤ H := by omega
     have h2H : H ≤ 1125899906842624 := by omega
     have h2n : n ≤ 1125899906842624 := by omega
     have hb2 := belowS_lt m n
     clear hH HtN hs1 hs2
     go_enter Tryz.func46, Tryz.ntmps46
     go_wp2_with fail
     have hb1 := Lib.hid (show Below w.heap.size w (w.alloc (.cells #[.int .i64 0, .int .i64 0] 65)) from (Below.refl _ _).alloc (Nat.le_refl _) _)
     refine (HWF.out _ (HR.out.below hb1.out)).mono ?_
     rintro e w3 ⟨rfl, hb3⟩
     rw [HWF0.out]
     have M0 := Lib.hid (show BO w w.heap.size w3.heap.size (w3.alloc (.cells #[.int .i64 0, .int .i64 (-1)] 65)) from
       ⟨(btrans hb1.out hb3).alloc (btrans hb1.out hb3).size _, ((RowAt.new w 65 [.int .i64 0, .int .i64 0]).below hb3 (by simp)).alloc _, RowAt.new w3 65 [.int .i64 0, .int .i64 (-1)], Nat.le_refl _, (btrans hb1.out hb3).size⟩)
     have hg0 : w.heap.size < w3.heap.size := by have := hb3.size; simp at this; omega
     clear hb3 hb1
     go_wp2_with fail
     refine (HRN.out _ (HR.out.below M0.out.below) HWOK.out).mono ?_
     rintro e w5 ⟨db, lb, ob, rfl, hb5, n1, n2, n3, hr5⟩
     have M5 := Lib.hid (M0.out.next hb5)
     have HD5 := Lib.hid hr5
     have hs5 := hb5.size
     simp at hs5 n1 n2 n3
     clear hb5 hr5
     go_wp2_with fail
     have hb6 := Lib.hid (show Below w5.heap.size w5 (w5.alloc (.cells #[.int .i64 c, .int .i64 l, .int .i64 r] 3)) from (Below.refl _ _).alloc (Nat.le_refl _) _)
     have HR3 := Lib.hid (RdI.of_rowAt (k := .i64) (zs := [c, l, r]) (RowAt.new w5 3 [.int .i64 c, .int .i64 l, .int .i64 r]) (by simp [maxLen]))
     refine (ref_MixOf (s : Int) _ 3 3 [c, l, r] _ HR3.out).mono ?_
     rintro e w6 ⟨rfl, hb7⟩
     rw [HM.out]
     have hb56 := Lib.hid (btrans hb6.out hb7)
     clear hb7
     have hs6 := hb56.out.size
     go_wp2_with fail
     have hb8 := Lib.hid (show Below w5.heap.size w5 (w6.alloc (.cells #[.int .u64 (m : Int)] 134)) from hb56.out.alloc hb56.out.size _)
     have M8 := Lib.hid (M5.out.next hb8.out)
     have HD8 := Lib.hid (HD5.out.below hb8.out)
     have HL8 := Lib.hid (show RLotsAt w6.heap.size m (w6.alloc (.cells #[.int .u64 (m : Int)] 134)) from RowAt.new w6 134 [.int .u64 (m : Int)])
     refine (refl_Below w6.heap.size m n _ HMl.out hl1 h2n HL8.out).mono ?_
     rintro e w9 ⟨rfl, hk9, hl9⟩
     have M9 := Lib.hid (M8.out.keep hk9 (by omega) (by omega) (by omega))
     have HD9 := Lib.hid (HD8.out.keep hk9 (by have := HD5.out.d.lt; omega) (by have := HD5.out.l.lt; omega) (by have := HD5.out.o.lt; omega))
     have HL9 := Lib.hid hl9
     clear hk9 hl9
     have q1 := HH.out _ _ _ _ HD9.out
     go_wp2_with fail
     refine (refl_Below w6.heap.size (belowS m n) H _ hb2 h1H h2H HL9.out).mono ?_
     rintro e w10 ⟨rfl, hk10, hl10⟩
     have M10 := Lib.hid (M9.out.keep hk10 (by omega) (by omega) (by omega))
     have HD10 := Lib.hid (HD9.out.keep hk10 (by have := HD5.out.d.lt; omega) (by have := HD5.out.l.lt; omega) (by have := HD5.out.o.lt; omega))
     clear hk10 hl10 q1
     have HPC := Lib.hid (fun wx hd => HPick.out db lb ob (belowN m n) (belowN (belowS m n) H : Nat) wx hd HZ.out hbl)
     generalize pickOf (vose zs) (belowN m n) (belowN (belowS m n) H : Nat) = v at *
     have i0 := M10.out.r0.cell 0; have i1 := M10.out.r0.cell 1; have j0 := M10.out.r1.cell 0; have j1 := M10.out.r1.cell 1
     have f0 := M10.out.r0.frozen 0; have f1 := M10.out.r0.frozen 1
     simp at i0 i1 j0 j1
     have M10' := Lib.hid (M10.out.drewN 1)
     have HPC1 := Lib.hid (HPC.out w10.drew (HD10.out.below ((Below.refl _ _).drewN 1)))
     go_wp2_with fail
     go_region_with (go_at_call 71; refine HPC1.out.mono ?_; rintro e w' ⟨rfl, rfl⟩)
     all_goals go_wp2_with fail
     all_goals
       (try simp only [Exit.inBlock, Exit.then])
       refine bodyPost_ret (v := .tuple #[.int .i64 v, .agg #[.int .i64 0, .int .i64 (-1)]]) (ret_num_pair rfl _ _ w.heap.size _ _ _ _ _ _ rfl rfl (by first | exact (M10.out.r0.set 0 (.int .i64 0)).set 1 (.int .i64 (-1))) Tryz.underlying65 rfl (by kernel_rfl)) rfl (bakerOf_ok HF.out HVal.out ?_)
       exact ((M10.out.below.setCell M10.out.n0 _).setCell M10.out.n0 _).drewN 1
   · generalize hk : (weightsF zs).1 = k at *
     generalize ha : (weightsF zs).2 = a at *
     have HK := Lib.hid (show weightsF zs = (k, a) by rw [← hk, ← ha])
     have e2 : decide (0 < k) = true := by simp; omega
     have e3 : decide ((0 : Int) < (k : Int)) = true := by simp; omega
     have HF2 := Lib.hid (show bakerF zs c l r = (k, a) by rw [HF.out, HK.out])
     have Hk := Lib.hid hf
     generalize zs.length = n at *
     clear hf hk ha HVal HPick HRN HH
     go_enter Tryz.func46, Tryz.ntmps46
     go_wp2_with fail
     have hb1 := Lib.hid (show Below w.heap.size w (w.alloc (.cells #[.int .i64 0, .int .i64 0] 65)) from (Below.refl _ _).alloc (Nat.le_refl _) _)
     refine (HWF.out _ (HR.out.below hb1.out)).mono ?_
     rintro e w3 ⟨rfl, hb3⟩
     rw [HK.out]
     have hg0 : w.heap.size < w3.heap.size := by have := hb3.size; simp at this; omega
     have HB3 := Lib.hid (btrans hb1.out hb3)
     have H0 := Lib.hid ((RowAt.new w 65 [.int .i64 0, .int .i64 0]).below hb3 (by simp))
     have i0 := H0.out.cell 0; have i1 := H0.out.cell 1; have f0 := H0.out.frozen 0; have f1 := H0.out.frozen 1
     simp at i0 i1
     clear hb3 hb1
     go_wp2_with fail
     go_region
     all_goals go_wp2_with fail
     all_goals
       (try simp only [Exit.inBlock, Exit.then])
       refine bodyPost_ret (v := .tuple #[.int .i64 0, .agg #[.int .i64 k, .int .i64 a]]) (ret_num_pair rfl _ _ w.heap.size _ _ _ _ _ _ rfl rfl (by first | exact ((H0.out.set 0 (.int .i64 k)).set 1 (.int .i64 a)).alloc _) Tryz.underlying65 rfl (by kernel_rfl)) rfl (bakerOf_bad HF2.out Hk.out ?_)
       have hB := (HB3.out.setCell (p := ⟨w.heap.size, 0, none⟩) (Nat.le_refl _) (.int .i64 k)).setCell (p := ⟨w.heap.size, 1, none⟩) (Nat.le_refl _) (.int .i64 a)
       exact (hB.alloc hB.size _).drewN 1
 · have HF := Lib.hid (show bakerF zs c l r = (2, -1) from if_neg hr)
   have hcases : c < 0 ∨ (decide (c < 0) = false ∧ 1048576 < c) ∨ (decide (c < 0) = false ∧ decide (1048576 < c) = false ∧ l < 0) ∨ (decide (c < 0) = false ∧ decide (1048576 < c) = false ∧ decide (l < 0) = false ∧ 4194304 < l) ∨
       (decide (c < 0) = false ∧ decide (1048576 < c) = false ∧ decide (l < 0) = false ∧ decide (4194304 < l) = false ∧ r < 0) ∨ (decide (c < 0) = false ∧ decide (1048576 < c) = false ∧ decide (l < 0) = false ∧ decide (4194304 < l) = false ∧ decide (r < 0) = false ∧ 8 ≤ r) := by
     unfold roundOk at hr
     simp only [decide_eq_false_iff_not]; omega
   clear R hr
   rcases hcases with h | ⟨d1, h⟩ | ⟨d1, d2, h⟩ | ⟨d1, d2, d3, h⟩ | ⟨d1, d2, d3, d4, h⟩ | ⟨d1, d2, d3, d4, d5, h⟩
   all_goals
     go_enter Tryz.func46, Tryz.ntmps46
     go_wp2_with (go_at_call 66; refine (ref_Bare _ _).mono ?_; rintro e w' ⟨rfl, rfl⟩)
     (try simp only [Exit.inBlock, Exit.then])
     refine bodyPost_ret (v := .tuple #[.int .i64 0, .agg #[.int .i64 2, .int .i64 (-1)]]) (ret_num_pair rfl _ _ w.heap.size _ _ _ _ _ _ rfl rfl (by first | exact heap_two _ _ _ | exact heap_alloc_new _ _) Tryz.underlying65 rfl (by kernel_rfl)) rfl (bakerOf_bad (k := 2) HF.out (by decide) (((Below.refl _ _).alloc (Nat.le_refl _) _).alloc (by simp) _))
end Go.Proofs.YtajnfkmkombajaaGreatDoor
