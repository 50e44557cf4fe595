/- Contracts of the document's lots: Next, Below, MixOf. -/
import Derived.Test.YtajnfkmkombajaaDoorBelow
set_option linter.unusedVariables false
set_option linter.unusedSimpArgs false
namespace Go.Proofs.YtajnfkmkombajaaDoor
open Go.RowKit

theorem wrap_tdiv (y c : Int) (hc : 1 ≤ c) : IntKind.u64.wrap ((IntKind.u64.wrap y).tdiv c) = IntKind.u64.wrap y / c := by
  have hb : 0 ≤ IntKind.u64.wrap y ∧ IntKind.u64.wrap y < 18446744073709551616 := by rw [IntKind.wrap_u64]; omega
  generalize IntKind.u64.wrap y = x at *
  rw [Int.tdiv_eq_ediv_of_nonneg hb.1, IntKind.wrap_u64]
  have h1 : 0 ≤ x / c := Int.ediv_nonneg hb.1 (by omega)
  have h2 : x / c ≤ x := Int.ediv_le_self _ hb.1
  omega

set_option maxRecDepth 8000 in
theorem refl_Next (b : Nat) (s : Int) (w : World) (hc : w.cell? ⟨b, 0, none⟩ = some (.int .u64 s)) (hf : w.frozen? ⟨b, 0, none⟩ = false) :
    Calls Tryd.prog 60 #[.pointer (some ⟨b, 0, none⟩)] w fun e w' => e = .returned (.int .u64 (lotOut (lotAdv s))) ∧ w.setCell ⟨b, 0, none⟩ (.int .u64 (lotAdv s)) = w' := by
  have t1 := fun y => wrap_tdiv y 1073741824 (by decide)
  have t2 := fun y => wrap_tdiv y 134217728 (by decide)
  have t3 := fun y => wrap_tdiv y 2147483648 (by decide)
  go_enter Tryd.func60, Tryd.ntmps60
  go_wp2
  go_ret
  exact ⟨rfl, rfl⟩

/-- block b is the document's lots whose state is s -/
def RLotsAt (b : Nat) (s : Nat) (w : World) : Prop := RowAt b 79 [.int .u64 (s : Int)] w
theorem RLotsAt.cell {b s : Nat} {w : World} (h : RLotsAt b s w) : w.cell? ⟨b, 0, none⟩ = some (.int .u64 (s : Int)) := (RowAt.cell h 0).trans rfl
theorem RLotsAt.frozen {b s : Nat} {w : World} (h : RLotsAt b s w) : w.frozen? ⟨b, 0, none⟩ = false := RowAt.frozen h 0
theorem RLotsAt.put {b s t : Nat} {w : World} (h : RLotsAt b s w) : RLotsAt b t (w.setCell ⟨b, 0, none⟩ (.int .u64 (t : Int))) := RowAt.set h 0 _
theorem RLotsAt.keep {F : Nat → Prop} {b s : Nat} {w w' : World} (h : RLotsAt b s w) (k : Keep F w w') (hF : ¬ F b) : RLotsAt b s w' := RowAt.keep h k hF

theorem w64_in (x : Int) (h0 : -9223372036854775808 ≤ x) (h1 : x ≤ 9223372036854775807) : wrap64 x = x := by unfold wrap64; omega
theorem u64_in (x : Int) (h0 : 0 ≤ x) (h1 : x < 18446744073709551616) : IntKind.u64.wrap x = x := by rw [IntKind.wrap_u64]; omega

/-- a lot's half, and what is left of it -/
theorem below_facts (z n : Nat) (hz : z < 18446744073709551616) (h1 : 1 ≤ n) (h2 : n ≤ 1125899906842624) : ∃ h m : Nat, h = z / 2 ∧ m = h % n ∧ IntKind.u64.wrap ((z : Int) / 2) = (h : Int) ∧ (h : Int).tmod (n : Int) = (m : Int) ∧ (h : Int) % (n : Int) = (m : Int) ∧
    wrap64 (h : Int) = (h : Int) ∧ wrap64 (m : Int) = (m : Int) ∧ wrap64 ((h : Int) - (m : Int)) = (h : Int) - (m : Int) ∧ wrap64 (9223372036854775807 - (n : Int)) = 9223372036854775807 - (n : Int) ∧ wrap64 (9223372036854775807 - (n : Int) + 1) = 9223372036854775807 - (n : Int) + 1 ∧
    ((h : Int) - (m : Int) ≤ 9223372036854775807 - (n : Int) + 1 ↔ h < endB n) := by
  obtain ⟨h, hh⟩ : ∃ h : Nat, h = z / 2 := ⟨_, rfl⟩
  have hb : h ≤ 9223372036854775807 := by omega
  have hW := whole_stretch (z := h) h1 h2 (by omega)
  obtain ⟨m, hm⟩ : ∃ m : Nat, m = h % n := ⟨_, rfl⟩
  have hmh : m ≤ h := by rw [hm]; exact Nat.mod_le _ _
  rw [← hm] at hW
  refine ⟨h, m, hh, hm, by rw [half_int, ← hh]; exact u64_in _ (by omega) (by omega), by rw [Int.tmod_eq_emod_of_nonneg (by omega), hm, Int.natCast_emod], by rw [hm, Int.natCast_emod], ?_, ?_, ?_, ?_, ?_, ?_⟩
  · clear hW hm; exact w64_in _ (by omega) (by omega)
  · clear hW hm; exact w64_in _ (by omega) (by omega)
  · clear hW hm; exact w64_in _ (by omega) (by omega)
  · clear hW hm; exact w64_in _ (by omega) (by omega)
  · clear hW hm; exact w64_in _ (by omega) (by omega)
  · rw [← hW]; clear hW hm; omega

set_option maxRecDepth 8000 in
set_option maxHeartbeats 400000 in
theorem refl_Below (b s n : Nat) (w : World) (hs : s < 18446744073709551616) (h0 : 1 ≤ n) (h1 : n ≤ 1125899906842624) (hl : RLotsAt b s w) :
    Calls Tryd.prog 61 #[.pointer (some ⟨b, 0, none⟩), .int .i64 n] w fun e w' => e = .returned (.int .i64 (belowN s n)) ∧ Keep (· = b) w w' ∧ RLotsAt b (belowS s n) w' := by
  have hF := firstLot_is hs h0 h1
  have HN := Lib.hid (show belowN s n = lotHalf s (firstLot s n) % n from rfl)
  have HS := Lib.hid (show belowS s n = lotSt s (firstLot s n) from rfl)
  have HL := Lib.hid hl
  have Hst0 := Lib.hid (lotSt_zero hs)
  generalize firstLot s n = J at *
  have HJ := Lib.hid hF
  have hJ1 := hF.one
  have i1 : (1 : Int) ≤ (n : Int) := by omega
  have i2 : (n : Int) ≤ 1125899906842624 := by omega
  clear hF hs hl h0 h1
  go_enter Tryd.func61, Tryd.ntmps61
  go_wp2_with fail
  go_loopg [4] J (fun g _ wr => ∃ i : Nat, g + i = J ∧ i < J ∧ RLotsAt b (lotSt s i) wr ∧ Keep (· = b) w wr)
  case atStart => exact ⟨0, by omega, by omega, by rw [Hst0.out]; exact HL.out, Keep.refl _ _⟩
  case round =>
    clear HL Hst0
    obtain ⟨i, hg, hi, hl, hk⟩ := hrel
    have hG := Lib.hid hg; clear hg
    have hc := hl.cell
    have hf := hl.frozen
    have H1 := Lib.hid (lotSt_succ s i)
    have H2 := Lib.hid (lotOut_nat (lotSt s (i + 1)) (lotSt_lt _ _))
    have hnew := Lib.hid (hl.put (t := lotSt s (i + 1)))
    have HK := Lib.hid (hk.put (.int .u64 (lotSt s (i + 1) : Int)) (o := 0))
    have H3 := Lib.hid (show lotHalf s (i + 1) = lotN (lotSt s (i + 1)) / 2 from rfl)
    have hzl := lotN_lt (lotSt s (i + 1))
    have hnx := Lib.hid (refl_Next b (lotSt s i : Int) wr hc hf)
    clear hl hk hc hf
    obtain ⟨h, m, hh, hm, s1, s2, s3, s6, s7, s8, s4, s5, hiff⟩ := below_facts (lotN (lotSt s (i + 1))) n hzl (by omega) (by omega)
    have hcase : (i + 1 = J ∧ h < endB n) ∨ (i + 1 < J ∧ ¬ h < endB n) := by
      clear s1 s2 s3 s4 s5 s6 s7 s8 hiff hm
      by_cases hend : i + 1 = J
      · left; have := HJ.out.fits; rw [← hend, H3.out, ← hh] at this; exact ⟨hend, this⟩
      · right; have := HJ.out.first (i + 1) (by omega) (by omega); rw [H3.out, ← hh] at this; exact ⟨by omega, by omega⟩
    rw [← hiff] at hcase
    clear hiff
    have HM := Lib.hid (show lotHalf s (i + 1) % n = m by rw [H3.out, ← hh, ← hm])
    generalize lotN (lotSt s (i + 1)) = z at *
    rcases hcase with ⟨hend, hfit⟩ | ⟨hend, hfit⟩
    · have dl : decide ((h : Int) - (m : Int) ≤ 9223372036854775807 - (n : Int) + 1) = true := decide_eq_true hfit
      subst hend
      have HN2 := Lib.hid (show belowN s n = m by rw [HN.out, HM.out])
      have HS2 := Lib.hid (show belowS s n = lotSt s (i + 1) by rw [HS.out])
      clear hfit hzl hh hm
      go_wp2_with fail
      refine hnx.out.mono ?_
      rintro e w' ⟨rfl, rfl⟩
      rw [H1.out, H2.out]
      go_wp2_with fail
      go_ret
      refine ⟨?_, HK.out, by rw [HS2.out]; exact hnew.out⟩
      rw [HN2.out]
      rfl
    · have dl : decide ((h : Int) - (m : Int) ≤ 9223372036854775807 - (n : Int) + 1) = false := decide_eq_false hfit
      clear hfit hzl hh hm
      go_wp2_with fail
      refine hnx.out.mono ?_
      rintro e w' ⟨rfl, rfl⟩
      rw [H1.out, H2.out]
      go_wp2_with fail
      have hg := hG.out
      go_roundg (J - (i + 1))
      case measure => omega
      case rel => exact ⟨i + 1, by omega, by omega, hnew.out, HK.out⟩

theorem refl_Next_new (s : Int) (w : World) :
    Calls Tryd.prog 60 #[.pointer (some ⟨w.heap.size, 0, none⟩)] (w.alloc (.cells #[.int .u64 s] 79)) fun e w' => e = .returned (.int .u64 (lotOut (lotAdv s))) ∧ w.alloc (.cells #[.int .u64 (lotAdv s)] 79) = w' :=
  (refl_Next w.heap.size s _ (by simp) (by simp)).mono fun e w' ⟨he, hw⟩ => ⟨he, by rw [← hw, World.setCell_alloc_new]; rfl⟩

set_option maxRecDepth 8000 in
theorem ref_MixOf (s : Int) (ao : Option Addr) (len cap : Nat) (zs : List Int) (w : World) (R : RdI .i64 w ao len cap zs) :
    Calls Tryd.prog 63 #[.int .u64 s, .slice ao len cap] w fun e w' => e = .returned (.int .u64 (mixL s zs)) ∧ Below w.heap.size w w' := by
  have hlen := R.size
  have hm : len ≤ 9223372036854775807 := by have := R.lc; have := R.cm; unfold maxLen at *; omega
  have Hl := Lib.hid hlen; have HR := Lib.hid R
  clear hlen R
  go_enter Tryd.func63, Tryd.ntmps63
  go_wp2_with fail
  go_loopw [0, 5] (fun t i wr => ∃ k : Nat, k ≤ len ∧ i = .int .i64 k ∧ t = .int .u64 (mixL s (zs.take k)) ∧ Below w.heap.size w wr) (fun _ i _ => len - (intOf i).toNat)
  case atStart => exact ⟨0, Nat.zero_le _, rfl, rfl, Below.refl _ _⟩
  case round =>
    obtain ⟨k, hk, rfl, rfl, hbel⟩ := hrel
    by_cases hlt : k < len
    · obtain ⟨b, off, ha, hck⟩ := (HR.out.below hbel).cells k hlt
      have Ha := Lib.hid ha; clear ha
      have := Ha.out; subst this
      have hts : mixL s (zs.take (k + 1)) = mix1 (mixL s (zs.take k)) (zs.getD k 0) := by
        rw [List.take_succ_eq_append_getElem (by rw [Hl.out]; exact hlt), mixL_snoc]; simp [Hl.out, hlt]
      have Ht := Lib.hid hts; clear hts
      generalize zs.getD k 0 = z at *
      go_wp2_with (first | (go_at_call 60; refine (refl_Next_new _ _).mono ?_; rintro e w' ⟨rfl, rfl⟩))
      go_roundw
      case rel => exact ⟨k + 1, by omega, by go_num, by rw [Ht.out]; rfl, hbel.alloc hbel.size _⟩
      case measure => simp [intOf]; omega
    · go_wp2
      go_ret
      exact ⟨by rw [List.take_of_length_le (by rw [Hl.out]; omega)]; rfl, hbel⟩
end Go.Proofs.YtajnfkmkombajaaDoor
