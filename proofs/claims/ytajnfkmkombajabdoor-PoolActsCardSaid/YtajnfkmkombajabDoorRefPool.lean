/- Contracts of the document's pool: what it holds, All, Shares, Value. -/
import Derived.Test.YtajnfkmkombajabDoorPlRefPool
import Derived.Test.YtajnfkmkombajabDoorRefProd
import Derived.Test.YtajnfkmkombajabDoorKeep
set_option linter.unusedVariables false
set_option linter.unusedSimpArgs false
namespace Go.Proofs.YtajnfkmkombajabDoor
open Go.RowKit

/-- block b begins with these values -/
def RowPre (b : Nat) (T : TypeId) (vs : List Value) (w : World) : Prop := ∃ tl, RowAt b T (vs ++ tl) w
theorem RowPre.lt {b : Nat} {T : TypeId} {vs : List Value} {w : World} (h : RowPre b T vs w) : b < w.heap.size := h.choose_spec.lt
theorem RowPre.cell {b : Nat} {T : TypeId} {vs : List Value} {w : World} (h : RowPre b T vs w) {i : Nat} (hi : i < vs.length) : w.cell? ⟨b, i, none⟩ = vs[i]? := by
  obtain ⟨tl, h⟩ := h
  rw [h.cell, List.getElem?_append_left hi]
theorem RowPre.frozen {b : Nat} {T : TypeId} {vs : List Value} {w : World} (h : RowPre b T vs w) (i : Nat) : w.frozen? ⟨b, i, none⟩ = false := h.choose_spec.frozen i
theorem RowPre.keep {F : Nat → Prop} {b : Nat} {T : TypeId} {vs : List Value} {w w' : World} (h : RowPre b T vs w) (k : Keep F w w') (hF : ¬ F b) : RowPre b T vs w' := ⟨_, h.choose_spec.keep k hF⟩
theorem RowPre.set {b : Nat} {T : TypeId} {vs : List Value} {w : World} (h : RowPre b T vs w) {i : Nat} (hi : i < vs.length) (v : Value) : RowPre b T (vs.set i v) (w.setCell ⟨b, i, none⟩ v) := by
  obtain ⟨tl, h⟩ := h
  refine ⟨tl, ?_⟩
  have := h.set i v
  rwa [List.set_append_left _ _ hi] at this
theorem RowPre.set_other {b : Nat} {T : TypeId} {vs : List Value} {w : World} (h : RowPre b T vs w) {p : Addr} (hp : p.block ≠ b) (v : Value) : RowPre b T vs (w.setCell p v) := ⟨_, h.choose_spec.set_other hp v⟩
theorem RowPre.of {b : Nat} {T : TypeId} {vs : List Value} {w : World} (h : RowAt b T vs w) : RowPre b T vs w := ⟨[], by rw [List.append_nil]; exact h⟩

/-- blocks b and sb are a pool of the document's that holds q -/
structure RPoolAt (b sb cap : Nat) (q : QS) (w : World) : Prop where
  ok : q.Ok
  row : RowAt b 109 [.int .i64 q.total, .slice (some ⟨sb, 0, none⟩) 6 cap] w
  has : RowPre sb 3 (q.sh.map (Value.int .i64)) w
  ne : b ≠ sb
  c6 : 6 ≤ cap
  cm : cap ≤ maxLen
section
variable {b sb cap : Nat} {q : QS} {w w' : World}
theorem RPoolAt.keep {F : Nat → Prop} (h : RPoolAt b sb cap q w) (k : Keep F w w') (h1 : ¬ F b) (h2 : ¬ F sb) : RPoolAt b sb cap q w' := ⟨h.ok, h.row.keep k h1, h.has.keep k h2, h.ne, h.c6, h.cm⟩
theorem RPoolAt.drewN (h : RPoolAt b sb cap q w) (n : Nat) : RPoolAt b sb cap q (w.drewN n) := ⟨h.ok, h.row, h.has, h.ne, h.c6, h.cm⟩
theorem RPoolAt.c0 (h : RPoolAt b sb cap q w) : w.cell? ⟨b, 0, none⟩ = some (.int .i64 q.total) := by rw [h.row.cell]; rfl
theorem RPoolAt.c1 (h : RPoolAt b sb cap q w) : w.cell? ⟨b, 1, none⟩ = some (.slice (some ⟨sb, 0, none⟩) 6 cap) := by rw [h.row.cell]; rfl
theorem RPoolAt.hc (h : RPoolAt b sb cap q w) {k : Nat} (hk : k < 6) : w.cell? ⟨sb, k, none⟩ = some (.int .i64 (q.at k)) := by
  rw [h.has.cell (by rw [List.length_map, h.ok.six]; exact hk), List.getElem?_map, List.getElem?_eq_getElem (by rw [h.ok.six]; exact hk)]
  have ho : ownB (k : Int) = true := ownB_iff.2 ⟨by omega, by omega⟩
  simp [QS.at, ho, h.ok.six, hk]
theorem RPoolAt.hf (h : RPoolAt b sb cap q w) (k : Nat) : w.frozen? ⟨sb, k, none⟩ = false := h.has.frozen k
theorem RPoolAt.lt (h : RPoolAt b sb cap q w) : b < w.heap.size ∧ sb < w.heap.size := ⟨h.row.lt, h.has.lt⟩
theorem RPoolAt.change (h : RPoolAt b sb cap q w) {k : Nat} (hk : k < 6) (s n : Int) (hok : (q.change k s n).Ok) :
    RPoolAt b sb cap (q.change k s n) ((w.setCell ⟨sb, k, none⟩ (.int .i64 (q.at k + s))).setCell ⟨b, 0, none⟩ (.int .i64 (q.total + n))) := by
  refine ⟨hok, (h.row.set_other (p := ⟨sb, k, none⟩) (by simp only; exact fun e => h.ne e.symm) _).set 0 _, ?_, h.ne, h.c6, h.cm⟩
  have := h.has.set (i := k) (by rw [List.length_map, h.ok.six]; exact hk) (.int .i64 (q.at k + s))
  rw [← List.map_set] at this
  exact RowPre.set_other this (p := ⟨b, 0, none⟩) (by simp only; exact fun e => h.ne e) _
theorem RPoolAt.setTotal (h : RPoolAt b sb cap q w) (t : Int) (hok : (QS.mk t q.all q.sh).Ok) : RPoolAt b sb cap ⟨t, q.all, q.sh⟩ (w.setCell ⟨b, 0, none⟩ (.int .i64 t)) :=
  ⟨hok, h.row.set 0 _, h.has.set_other (p := ⟨b, 0, none⟩) (by simp only; exact fun e => h.ne e) _, h.ne, h.c6, h.cm⟩
end
/-- the pool may have turned -/
def RPoolP (b sb cap : Nat) (q : QS) (w w' : World) : Prop := Keep (fun k => k = b ∨ k = sb) w w' ∧ RPoolAt b sb cap q w'
theorem RPoolP.refl {b sb cap : Nat} {q : QS} {w : World} (h : RPoolAt b sb cap q w) : RPoolP b sb cap q w w := ⟨Keep.refl _ _, h⟩
theorem RPoolAt.changeP {b sb cap : Nat} {q : QS} {w : World} (h : RPoolAt b sb cap q w) {k : Nat} (hk : k < 6) (s n : Int) (hok : (q.change k s n).Ok) :
    RPoolP b sb cap (q.change k s n) w ((w.setCell ⟨sb, k, none⟩ (.int .i64 (q.at k + s))).setCell ⟨b, 0, none⟩ (.int .i64 (q.total + n))) :=
  ⟨((Keep.refl _ _).setCell (p := ⟨sb, k, none⟩) (.inl (.inr rfl)) _).setCell (p := ⟨b, 0, none⟩) (.inl (.inl rfl)) _, h.change hk s n hok⟩
theorem RPoolAt.totalP {b sb cap : Nat} {q : QS} {w : World} (h : RPoolAt b sb cap q w) (t : Int) (hok : (QS.mk t q.all q.sh).Ok) : RPoolP b sb cap ⟨t, q.all, q.sh⟩ w (w.setCell ⟨b, 0, none⟩ (.int .i64 t)) :=
  ⟨(Keep.refl _ _).setCell (p := ⟨b, 0, none⟩) (.inl (.inl rfl)) _, h.setTotal t hok⟩
theorem RPoolP.drewN {b sb cap : Nat} {q : QS} {w w' : World} (h : RPoolP b sb cap q w w') (n : Nat) : RPoolP b sb cap q w (w'.drewN n) := ⟨h.1.drewN n, h.2.drewN n⟩

theorem ref_Product_yes {a b c : Int} (h : overOk a b c) (w : World) :
    Calls Tryd.prog 124 #[.int .i64 a, .int .i64 b, .int .i64 c] w fun e w' => e = .returned (.tuple #[.int .i64 (overN a b c), .int .i64 (overR a b c), .bool true]) ∧ w = w' := by
  obtain ⟨_, e1, e2⟩ := over_yes h
  obtain ⟨⟨a0, a1⟩, ⟨b0, b1⟩, ⟨c0, c1⟩, hq⟩ := h
  obtain ⟨a, rfl⟩ := Int.eq_ofNat_of_zero_le a0
  obtain ⟨b, rfl⟩ := Int.eq_ofNat_of_zero_le b0
  obtain ⟨c, rfl⟩ := Int.eq_ofNat_of_zero_le (show 0 ≤ c by omega)
  have f1 : ((a : Int) * b / c) = ((a * b / c : Nat) : Int) := by simp
  have f2 : ((a : Int) * b % c) = ((a * b % c : Nat) : Int) := by simp
  rw [f1] at hq e1
  rw [f2] at e2
  have hq' : a * b / c ≤ 1125899906842624 := by clear e1 e2 f1 f2; generalize a * b / c = z at hq ⊢; omega
  have := ref_Product a b c (by omega) (by omega) (by omega) (by omega) w
  rw [rprod_yes hq'] at this
  rw [e1, e2]; exact this
theorem ref_Product_no {a b c : Int} (ha : 0 ≤ a ∧ a ≤ 1125899906842624) (hb : 0 ≤ b ∧ b ≤ 1125899906842624) (hc : 1 ≤ c ∧ c ≤ 1125899906842624) (h : ¬ overOk a b c) (w : World) :
    Calls Tryd.prog 124 #[.int .i64 a, .int .i64 b, .int .i64 c] w fun e w' => e = .returned (.tuple #[.int .i64 0, .int .i64 0, .bool false]) ∧ w = w' := by
  obtain ⟨a0, a1⟩ := ha; obtain ⟨b0, b1⟩ := hb; obtain ⟨c0, c1⟩ := hc
  obtain ⟨a, rfl⟩ := Int.eq_ofNat_of_zero_le a0
  obtain ⟨b, rfl⟩ := Int.eq_ofNat_of_zero_le b0
  obtain ⟨c, rfl⟩ := Int.eq_ofNat_of_zero_le (show 0 ≤ c by omega)
  have hq' : ¬ a * b / c ≤ 1125899906842624 := fun hq => h (over_nat (by omega) (by omega) (by omega) (by omega) hq)
  have := ref_Product a b c (by omega) (by omega) (by omega) (by omega) w
  rw [rprod_no hq'] at this
  exact this

theorem refq_New (w : World) : Calls Tryd.prog 80 #[] w fun e w' => ∃ b sb, e = .returned (.pointer (some ⟨b, 0, none⟩)) ∧ Below w.heap.size w w' ∧ w.heap.size ≤ b ∧ w.heap.size ≤ sb ∧ RPoolAt b sb 6 QS.new w' := by
  have hmk : ∀ w, (Instr.makeSlice 51 (.int .i64 6) (.int .i64 6)).run Tryd.prog w = .ok (.slice (some ⟨w.heap.size, 0, none⟩) 6 6) (w.alloc (.cells #[.int .i64 0, .int .i64 0, .int .i64 0, .int .i64 0, .int .i64 0, .int .i64 0] 3)) := fun _ => by kernel_rfl
  go_enter Tryd.func80, Tryd.ntmps80
  go_wp2
  go_ret
  refine ⟨w.heap.size + 1, w.heap.size, rfl, ((Below.refl _ _).alloc (Nat.le_refl _) _).alloc (by simp) _, by omega, Nat.le_refl _, QS.new_ok, ?_, ?_, by omega, Nat.le_refl _, by decide⟩
  · have := RowAt.new (w.alloc (.cells #[.int .i64 0, .int .i64 0, .int .i64 0, .int .i64 0, .int .i64 0, .int .i64 0] 3)) 109 [.int .i64 0, .slice (some ⟨w.heap.size, 0, none⟩) 6 6]
    have hs : (w.alloc (.cells #[.int .i64 0, .int .i64 0, .int .i64 0, .int .i64 0, .int .i64 0, .int .i64 0] 3)).heap.size = w.heap.size + 1 := by simp
    rw [hs] at this
    exact this
  · exact RowPre.of ((RowAt.new w 3 [.int .i64 0, .int .i64 0, .int .i64 0, .int .i64 0, .int .i64 0, .int .i64 0]).alloc _)

theorem refq_All (b sb cap : Nat) (q : QS) (w : World) (h : RPoolAt b sb cap q w) :
    Calls Tryd.prog 93 #[.pointer (some ⟨b, 0, none⟩)] w fun e w' => e = .returned (.int .i64 q.all) ∧ w = w' := by
  have c1 := h.c1
  have H := Lib.hid h; clear h
  have hS := Lib.hid (show (q.sh.take 6).sum = q.all by rw [List.take_of_length_le (by rw [H.out.ok.six]; exact Nat.le_refl _)]; exact H.out.ok.sumIs)
  go_enter Tryd.func93, Tryd.ntmps93
  go_wp2_with fail
  go_loop [3, 4] (fun t i => ∃ j : Nat, j ≤ 6 ∧ i = .int .i64 j ∧ t = .int .i64 (q.sh.take j).sum) (fun _ i => 6 - (intOf i).toNat)
  case atStart => exact ⟨0, by omega, rfl, rfl⟩
  case round =>
    obtain ⟨j, hj, rfl, rfl⟩ := hrel
    by_cases hj6 : j < 6
    · have ch := H.out.hc hj6
      have hb1 := H.out.ok.at_bd (j : Int)
      have ho : ownB (j : Int) = true := ownB_iff.2 ⟨by omega, by omega⟩
      have htn : (q.sh.take (j + 1)).sum = (q.sh.take j).sum + q.at (j : Int) := by
        rw [List.take_succ_eq_append_getElem (by rw [H.out.ok.six]; exact hj6), List.sum_append]
        simp [QS.at, ho, H.out.ok.six, hj6]
      have hts : 0 ≤ (q.sh.take j).sum ∧ (q.sh.take j).sum + q.at (j : Int) ≤ 1125899906842624 := by
        have h1 := (sum_le_of_nonneg (l := q.sh.take j) (fun x hx => H.out.ok.pos x (List.mem_of_mem_take hx)) 0).2.1
        have h2 := (sum_le_of_nonneg (l := q.sh.drop (j + 1)) (fun x hx => H.out.ok.pos x (List.mem_of_mem_drop hx)) 0).2.1
        have h3 : q.sh.sum = (q.sh.take (j + 1)).sum + (q.sh.drop (j + 1)).sum := by rw [← List.sum_append, List.take_append_drop]
        rw [htn] at h3
        have := H.out.ok.sumIs; have := H.out.ok.a1
        omega
      have HT := Lib.hid htn; clear htn ho
      generalize q.at (j : Int) = v at *
      generalize (q.sh.take j).sum = t at *
      go_wp2_with fail
      go_round
      case rel => exact ⟨j + 1, by omega, by go_num, by rw [HT.out]⟩
      case measure => simp [intOf]; omega
    · obtain rfl : j = 6 := by omega
      rw [hS.out]
      go_wp2
      go_ret
      exact ⟨rfl, rfl⟩

theorem refq_Shares (b sb cap : Nat) (q : QS) (o : Int) (w : World) (h : RPoolAt b sb cap q w) :
    Calls Tryd.prog 95 #[.pointer (some ⟨b, 0, none⟩), .int .i64 o] w fun e w' => e = .returned (.int .i64 (q.at o)) ∧ w = w' := by
  by_cases ho : ownB o = true
  · obtain ⟨h0, h6⟩ := ownB_iff.1 ho
    obtain ⟨k, rfl⟩ := Int.eq_ofNat_of_zero_le h0
    have hk : k < 6 := by omega
    have hc1 := h.c1
    have hck := h.hc hk
    clear h
    generalize q.at (k : Int) = x at *
    go_enter Tryd.func95, Tryd.ntmps95
    go_wp2_with (go_at_call 113; refine (ref_IsOwner _ _).mono ?_; rintro e w' ⟨rfl, rfl⟩)
    go_ret
    exact ⟨rfl, rfl⟩
  · have ho' : ownB o = false := by simpa using ho
    have HV := Lib.hid (show q.at o = 0 by unfold QS.at; rw [ho']; rfl)
    clear h ho
    go_enter Tryd.func95, Tryd.ntmps95
    go_wp2_with (go_at_call 113; refine (ref_IsOwner _ _).mono ?_; rintro e w' ⟨rfl, rfl⟩)
    go_ret
    exact ⟨by rw [HV.out]; rfl, rfl⟩

set_option maxHeartbeats 400000 in
theorem refq_Value (b sb cap : Nat) (q : QS) (o : Int) (w : World) (h : RPoolAt b sb cap q w) :
    Calls Tryd.prog 97 #[.pointer (some ⟨b, 0, none⟩), .int .i64 o] w fun e w' => e = .returned (.int .i64 (q.value o)) ∧ Dr w w' := by
  have c0 := h.c0
  have H := Lib.hid h
  by_cases hz : q.all = 0
  · have HV := Lib.hid (QS.Ok.value_nil hz o)
    have hA := Lib.hid (refq_All b sb cap q)
    have hz' : (q.all == 0) = true := by simp [hz]
    clear h hz
    go_enter Tryd.func97, Tryd.ntmps97
    go_wp2_with (go_at_call 93; refine (hA.out _ H.out).mono ?_; rintro e w' ⟨rfl, rfl⟩)
    go_ret
    exact ⟨by rw [HV.out]; rfl, Dr.refl _⟩
  · have ho := h.ok.overOk hz o
    have HV := Lib.hid (show q.value o = overN (q.at o) q.total q.all by unfold QS.value; rw [if_neg hz])
    have hz' : (q.all == 0) = false := by simp [hz]
    have hA := Lib.hid (refq_All b sb cap q)
    have hS := Lib.hid (refq_Shares b sb cap q o)
    have hP := Lib.hid (ref_Product_yes ho)
    clear h hz ho
    go_enter Tryd.func97, Tryd.ntmps97
    go_wp2_with (go_at_call 93; refine (hA.out _ H.out).mono ?_; rintro e w' ⟨rfl, rfl⟩)
    go_quiet ((first
      | (go_at_call 93; exact Calls.quiet_of_same ((hA.out _ (H.out.drewN _)).mono fun _ _ ⟨a, b⟩ => ⟨a, b.symm⟩))
      | (go_at_call 95; exact Calls.quiet_of_same ((hS.out _ (H.out.drewN _)).mono fun _ _ ⟨a, b⟩ => ⟨a, b.symm⟩))
      | (go_at_call 124; exact Calls.quiet_of_same ((hP.out _).mono fun _ _ ⟨a, b⟩ => ⟨a, b.symm⟩))))
    go_wp2
    go_ret
    exact ⟨by rw [HV.out]; rfl, _, rfl⟩
end Go.Proofs.YtajnfkmkombajabDoor
