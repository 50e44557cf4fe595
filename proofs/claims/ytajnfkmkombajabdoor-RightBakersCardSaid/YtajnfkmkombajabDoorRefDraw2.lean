/- Contracts of the document's WeightsFault and Draw.Pick. -/
import Derived.Test.YtajnfkmkombajabDoorRefDraw
import Derived.Test.YtajnfkmkombajabDoorBendFault
import Derived.Test.YtajnfkmkombajabDoorDrawOps
set_option linter.unusedVariables false
set_option linter.unusedSimpArgs false
namespace Go.Proofs.YtajnfkmkombajabDoor
open Go.RowKit

def WFaultPost (l : List Int) (w : World) (e : Ending) (w' : World) : Prop := e = .returned (.agg #[.int .i64 (weightsF l).1, .int .i64 (weightsF l).2]) ∧ Below w.heap.size w w'
theorem wfault_close {l : List Int} {w W : World} {c : Nat} {k : Int} (h : weightsF l = (c, k)) (hb : Below w.heap.size w W) : WFaultPost l w (.returned (.agg #[.int .i64 c, .int .i64 k])) W := by
  unfold WFaultPost; rw [h]; exact ⟨rfl, hb⟩
theorem badW_false {x : Int} : badW x = false ↔ 0 ≤ x ∧ x ≤ 1073741824 := by unfold badW; simp
theorem take_sum_bd (l : List Int) : ∀ k, k ≤ 64 → (∀ j, j < k → badW (l.getD j 0) = false) → 0 ≤ (l.take k).sum ∧ (l.take k).sum ≤ 1073741824 * (k : Int)
  | 0, _, _ => by simp
  | k + 1, hk, h => by
    have ih := take_sum_bd l k (by omega) (fun j hj => h j (by omega))
    have hx := badW_false.1 (h k (by omega))
    by_cases hl : k < l.length
    · have e : l.take (k + 1) = l.take k ++ [l.getD k 0] := by
        rw [List.take_succ_eq_append_getElem hl]; simp [hl]
      rw [e]; simp only [List.sum_append, List.sum_cons, List.sum_nil]; omega
    · rw [List.take_of_length_le (by omega)]; rw [List.take_of_length_le (by omega)] at ih; omega
theorem take_sum_succ {l : List Int} {k : Nat} (hl : k < l.length) : (l.take (k + 1)).sum = (l.take k).sum + l.getD k 0 := by
  rw [List.take_succ_eq_append_getElem hl, List.sum_append]; simp [hl]

set_option maxHeartbeats 2000000 in
set_option maxRecDepth 8000 in
theorem ref_WeightsFault (ao : Option Addr) (len cap : Nat) (l : List Int) (w : World) (R : RdI .i64 w ao len cap l) :
    Calls Tryd.prog 45 #[.slice ao len cap] w (WFaultPost l w) := by
  have hfl : ∀ x : Nat, x = w.heap.size → True := fun _ _ => trivial
  clear hfl
  by_cases hlen : len < 1 ∨ 64 < len
  · have HF := Lib.hid (show weightsF l = (3, -1) by unfold weightsF; rw [if_pos (by rw [R.size]; exact hlen)])
    clear R
    by_cases h1 : len < 1
    · have e1 : decide ((len : Int) < 1) = true := by simp; omega
      clear hlen
      go_enter Tryd.func45, Tryd.ntmps45
      go_wp2_with (go_at_call 61; refine (ref_Bare _ _).mono ?_; rintro e w' ⟨rfl, rfl⟩)
      (try simp only [Exit.inBlock, Exit.then])
      refine bodyPost_ret (v := .agg #[.int .i64 3, .int .i64 (-1)]) (ret_pair rfl _ _ w.heap.size _ _ _ _ _ rfl (by first | exact heap_two _ _ _ | exact heap_drewN _ _ _ | exact heap_drewN2 _ _ _ _ | exact heap_alloc_new _ _) Tryd.underlying72 rfl (by kernel_rfl)) rfl (wfault_close (c := 3) HF.out (((Below.refl _ _).alloc (Nat.le_refl _) _).alloc (by simp) _))
    · have e1 : decide ((len : Int) < 1) = false := by simp; omega
      have e2 : decide ((64 : Int) < (len : Int)) = true := by simp; omega
      clear hlen
      go_enter Tryd.func45, Tryd.ntmps45
      go_wp2_with (go_at_call 61; refine (ref_Bare _ _).mono ?_; rintro e w' ⟨rfl, rfl⟩)
      (try simp only [Exit.inBlock, Exit.then])
      refine bodyPost_ret (v := .agg #[.int .i64 3, .int .i64 (-1)]) (ret_pair rfl _ _ w.heap.size _ _ _ _ _ rfl (by first | exact heap_two _ _ _ | exact heap_drewN _ _ _ | exact heap_drewN2 _ _ _ _ | exact heap_alloc_new _ _) Tryd.underlying72 rfl (by kernel_rfl)) rfl (wfault_close (c := 3) HF.out (((Below.refl _ _).alloc (Nat.le_refl _) _).alloc (by simp) _))
  · rcases R.split with ⟨h0, _⟩ | ⟨h0, b, off, rfl, hb, hcell⟩
    · omega
    have e1 : decide ((len : Int) < 1) = false := by simp; omega
    have e2 : decide ((64 : Int) < (len : Int)) = false := by simp; omega
    have hl8 : (len : Int) ≤ 64 := by omega
    have HBad := Lib.hid (fun (h : 0 ≤ firstBad l) => (show weightsF l = (2, firstBad l) by unfold weightsF; rw [if_neg (by rw [R.size]; exact hlen), if_pos h]))
    have HEnd := Lib.hid (fun (h : firstBad l = -1) => (show weightsF l = if l.sum = 0 then (4, -1) else (0, -1) by unfold weightsF; rw [if_neg (by rw [R.size]; exact hlen), if_neg (by omega)]))
    have Hc := Lib.hid hcell; clear hcell
    have HR := Lib.hid R.size; clear R
    clear hlen
    go_enter Tryd.func45, Tryd.ntmps45
    go_wp2
    go_loop [3, 4] (fun t i => ∃ k : Nat, k ≤ len ∧ i = .int .i64 k ∧ t = .int .i64 (l.take k).sum ∧ ∀ j, j < k → badW (l.getD j 0) = false) (fun _ i => len - (intOf i).toNat)
    case atStart => exact ⟨0, Nat.zero_le _, rfl, rfl, fun j hj => by omega⟩
    case round =>
      obtain ⟨k, hk, rfl, rfl, hgood⟩ := hrel
      have hsum := take_sum_bd l k (by omega) hgood
      have hsu : (l.take k).sum ≤ 68719476736 := by omega
      have HG := Lib.hid hgood; clear hgood
      by_cases hlt : k < len
      · have c1 := Hc.out k hlt
        have hllen : k < l.length := by rw [HR.out]; exact hlt
        have HS := Lib.hid (take_sum_succ hllen)
        have HB2 := Lib.hid (fun (hb : badW (l.getD k 0) = true) => findIdx_here hllen hb HG.out)
        have HG2 := Lib.hid (fun (hb : badW (l.getD k 0) = false) j (hj : j < k + 1) => (by
          by_cases e : j = k
          · rw [e]; exact hb
          · exact HG.out j (by omega) : badW (l.getD j 0) = false))
        generalize l.getD k 0 = x at *
        generalize (l.take k).sum = T at *
        clear hllen
        have hx : x < 0 ∨ (0 ≤ x ∧ 1073741824 < x) ∨ (0 ≤ x ∧ x ≤ 1073741824) := by omega
        rcases hx with hx | ⟨hx, hx2⟩ | ⟨hx, hx2⟩
        · have HF := Lib.hid (HB2.out (by unfold badW; simp; omega))
          go_wp2
          (try simp only [Exit.inBlock, Exit.then])
          refine bodyPost_ret (v := .agg #[.int .i64 2, .int .i64 k]) (ret_pair rfl _ _ w.heap.size _ _ _ _ _ rfl (by first | exact heap_two _ _ _ | exact heap_drewN _ _ _ | exact heap_drewN2 _ _ _ _ | exact heap_alloc_new _ _) Tryd.underlying72 rfl (by kernel_rfl)) rfl (wfault_close (c := 2) (by rw [HBad.out (by rw [HF.out]; omega), HF.out]) (((Below.refl _ _).alloc (Nat.le_refl _) _)))
        · have HF := Lib.hid (HB2.out (by unfold badW; simp; omega))
          go_wp2
          (try simp only [Exit.inBlock, Exit.then])
          refine bodyPost_ret (v := .agg #[.int .i64 2, .int .i64 k]) (ret_pair rfl _ _ w.heap.size _ _ _ _ _ rfl (by first | exact heap_two _ _ _ | exact heap_drewN _ _ _ | exact heap_drewN2 _ _ _ _ | exact heap_alloc_new _ _) Tryd.underlying72 rfl (by kernel_rfl)) rfl (wfault_close (c := 2) (by rw [HBad.out (by rw [HF.out]; omega), HF.out]) (((Below.refl _ _).alloc (Nat.le_refl _) _)))
        · have HF := Lib.hid (HG2.out (badW_false.2 ⟨hx, hx2⟩))
          go_wp2
          go_round
          case rel => exact ⟨k + 1, by omega, by go_num, by rw [HS.out], HF.out⟩
          case measure => simp [intOf]; omega
      · have hkl : k = len := by omega
        subst hkl
        have HS := Lib.hid (show (l.take k).sum = l.sum by rw [List.take_of_length_le (by rw [HR.out]; omega)])
        have HF := Lib.hid (HEnd.out (findIdx_none (by rw [HR.out]; exact HG.out)))
        generalize (l.take k).sum = T at *
        by_cases hT : T = 0
        · have hz : (T == 0) = true := by simp [hT]
          have HF2 := Lib.hid (show weightsF l = (4, -1) by rw [HF.out, if_pos (by rw [← HS.out]; exact hT)])
          clear hT
          go_wp2_with (go_at_call 61; refine (ref_Bare _ _).mono ?_; rintro e w' ⟨rfl, rfl⟩)
          (try simp only [Exit.inBlock, Exit.then])
          refine bodyPost_ret (v := .agg #[.int .i64 4, .int .i64 (-1)]) (ret_pair rfl _ _ w.heap.size _ _ _ _ _ rfl (by first | exact heap_two _ _ _ | exact heap_drewN _ _ _ | exact heap_drewN2 _ _ _ _ | exact heap_alloc_new _ _) Tryd.underlying72 rfl (by kernel_rfl)) rfl (wfault_close (c := 4) HF2.out (((Below.refl _ _).alloc (Nat.le_refl _) _).alloc (by simp) _))
        · have hz : (T == 0) = false := by simp [hT]
          have HF2 := Lib.hid (show weightsF l = (0, -1) by rw [HF.out, if_neg (by rw [← HS.out]; exact hT)])
          clear hT
          go_wp2_with (go_at_call 122; refine (ref_Fine _).mono ?_; rintro e w' ⟨rfl, rfl⟩)
          (try simp only [Exit.inBlock, Exit.then])
          refine bodyPost_ret (v := .agg #[.int .i64 0, .int .i64 (-1)]) (ret_pair rfl _ _ w.heap.size _ _ _ _ _ rfl (by first | exact heap_two _ _ _ | exact heap_drewN _ _ _ | exact heap_drewN2 _ _ _ _ | exact heap_alloc_new _ _) Tryd.underlying72 rfl (by kernel_rfl)) rfl (wfault_close (c := 0) HF2.out (((Below.refl _ _).alloc (Nat.le_refl _) _).alloc (by simp) _))

section
variable {db lb ob : Nat} {zs : List Int} {w w' : World}
theorem RDrawAt.high (h : RDrawAt db lb ob zs w) : w.cell? ⟨db, 0, none⟩ = some (.int .i64 zs.sum) := by rw [h.d.cell]; rfl
theorem RDrawAt.lcell (h : RDrawAt db lb ob zs w) : w.cell? ⟨db, 1, none⟩ = some (.slice (some ⟨lb, 0, none⟩) zs.length zs.length) := by rw [h.d.cell]; rfl
theorem RDrawAt.ocell (h : RDrawAt db lb ob zs w) : w.cell? ⟨db, 2, none⟩ = some (.slice (some ⟨ob, 0, none⟩) zs.length zs.length) := by rw [h.d.cell]; rfl
theorem RDrawAt.line (h : RDrawAt db lb ob zs w) (hz : ∀ x ∈ zs, 0 ≤ x) {k : Nat} (hk : k < zs.length) : w.cell? ⟨lb, k, none⟩ = some (.int .i64 ((vose zs).getD k (0, 0)).1) := by
  have hl : k < (vose zs).length := by rw [(vose_just zs hz).size]; exact hk
  rw [h.l.cell, intVs_get (by rw [List.length_map]; exact hl)]; simp [List.getElem?_map, hl]
theorem RDrawAt.other (h : RDrawAt db lb ob zs w) (hz : ∀ x ∈ zs, 0 ≤ x) {k : Nat} (hk : k < zs.length) : w.cell? ⟨ob, k, none⟩ = some (.int .i64 ((vose zs).getD k (0, 0)).2) := by
  have hl : k < (vose zs).length := by rw [(vose_just zs hz).size]; exact hk
  rw [h.o.cell, intVs_get (by rw [List.length_map]; exact hl)]; simp [List.getElem?_map, hl]
theorem RDrawAt.below (h : RDrawAt db lb ob zs w) (k : Below w.heap.size w w') : RDrawAt db lb ob zs w' := ⟨h.d.below k h.d.lt, h.l.below k h.l.lt, h.o.below k h.o.lt⟩
theorem RDrawAt.keep {F : Nat → Prop} (h : RDrawAt db lb ob zs w) (k : Keep F w w') (h1 : ¬ F db) (h2 : ¬ F lb) (h3 : ¬ F ob) : RDrawAt db lb ob zs w' := ⟨h.d.keep k h1, h.l.keep k h2, h.o.keep k h3⟩
end

theorem refd_Pick (db lb ob : Nat) (zs : List Int) (c : Nat) (a : Int) (w : World) (h : RDrawAt db lb ob zs w) (hz : ∀ x ∈ zs, 0 ≤ x) (hc : c < zs.length) :
    Calls Tryd.prog 52 #[.pointer (some ⟨db, 0, none⟩), .int .i64 c, .int .i64 a] w fun e w' => e = .returned (.int .i64 (pickOf (vose zs) c a)) ∧ w = w' := by
  have q1 := h.lcell
  have q2 := h.ocell
  have q3 := h.line hz hc
  have q4 := h.other hz hc
  have HP := Lib.hid (show pickOf (vose zs) c a = if a < ((vose zs).getD c (0, 0)).1 then (c : Int) else ((vose zs).getD c (0, 0)).2 from rfl)
  generalize ((vose zs).getD c (0, 0)).1 = x at *
  generalize ((vose zs).getD c (0, 0)).2 = y at *
  generalize pickOf (vose zs) c a = p at *
  generalize zs.length = n at *
  clear h hz
  by_cases hx : a < x
  · have HX := Lib.hid (show p = (c : Int) by rw [HP.out, if_pos hx])
    go_enter Tryd.func52, Tryd.ntmps52
    go_wp2
    go_ret
    exact ⟨by rw [HX.out]; rfl, rfl⟩
  · have HX := Lib.hid (show p = y by rw [HP.out, if_neg hx])
    go_enter Tryd.func52, Tryd.ntmps52
    go_wp2
    go_ret
    exact ⟨by rw [HX.out]; rfl, rfl⟩
end Go.Proofs.YtajnfkmkombajabDoor
