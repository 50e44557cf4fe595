/-
  Contracts of the document's pool: what it holds, All, Shares, Value.
  Contracts of the document's pool: Join, Take, Leave, Add, Slash.
  Contracts of the document's pool: Leave, Add, Slash; CopyPool.
  Evidence held against evidence.
-/
import Derived.Test.YtajnfkmkombajaaGreatDoorQSP23
import Derived.Test.YtajnfkmkombajaaGreatDoorQSP01
import Derived.Deep.RegionWith
import Derived.Test.YtajnfkmkombajaaGreatDoorQSP15
import Derived.Test.YtajnfkmkombajaaGreatDoorQSP05
import Derived.Laws.StructEq
set_option linter.unusedVariables false
set_option linter.unusedSimpArgs false
set_option linter.unusedVariables false
namespace Go.Proofs.YtajnfkmkombajaaGreatDoor
open Go.RowKit
def RowPre (b : Nat) (T : TypeId) (vs : List Value) (w : World) : Prop := ∃ tl, RowAt b T (vs ++ tl) w
theorem RowPre.lt {b : Nat} {T : TypeId} {vs : List Value} {w : World} (h : RowPre b T vs w) : b < w.heap.size := h.choose_spec.lt
theorem RowPre.cell {b : Nat} {T : TypeId} {vs : List Value} {w : World} (h : RowPre b T vs w) {i : Nat} (hi : i < vs.length) : w.cell? ⟨b, i, none⟩ = vs[i]? := by
 obtain ⟨tl, h⟩ := h
 rw [h.cell, List.getElem?_append_left hi]
theorem RowPre.frozen {b : Nat} {T : TypeId} {vs : List Value} {w : World} (h : RowPre b T vs w) (i : Nat) : w.frozen? ⟨b, i, none⟩ = false := h.choose_spec.frozen i
theorem RowPre.keep {F : Nat → Prop} {b : Nat} {T : TypeId} {vs : List Value} {w w' : World} (h : RowPre b T vs w) (k : Keep F w w') (hF : ¬ F b) : RowPre b T vs w' := ⟨_, h.choose_spec.keep k hF⟩
theorem RowPre.set {b : Nat} {T : TypeId} {vs : List Value} {w : World} (h : RowPre b T vs w) {i : Nat} (hi : i < vs.length) (v : Value) : RowPre b T (vs.set i v) (w.setCell ⟨b, i, none⟩ v) := by
 obtain ⟨tl, h⟩ := h
 refine ⟨tl, ?_⟩
 have := h.set i v
 rwa [List.set_append_left _ _ hi] at this
theorem RowPre.set_other {b : Nat} {T : TypeId} {vs : List Value} {w : World} (h : RowPre b T vs w) {p : Addr} (hp : p.block ≠ b) (v : Value) : RowPre b T vs (w.setCell p v) := ⟨_, h.choose_spec.set_other hp v⟩
theorem RowPre.of {b : Nat} {T : TypeId} {vs : List Value} {w : World} (h : RowAt b T vs w) : RowPre b T vs w := ⟨[], by rw [List.append_nil]; exact h⟩
structure RPoolAt (b sb cap : Nat) (q : QS) (w : World) : Prop where
 ok : q.Ok
 row : RowAt b 97 [.int .i64 q.total, .slice (some ⟨sb, 0, none⟩) 6 cap] w
 has : RowPre sb 3 (q.sh.map (Value.int .i64)) w
 ne : b ≠ sb
 c6 : 6 ≤ cap
 cm : cap ≤ maxLen
section
variable {b sb cap : Nat} {q : QS} {w w' : World}
theorem RPoolAt.keep {F : Nat → Prop} (h : RPoolAt b sb cap q w) (k : Keep F w w') (h1 : ¬ F b) (h2 : ¬ F sb) : RPoolAt b sb cap q w' := ⟨h.ok, h.row.keep k h1, h.has.keep k h2, h.ne, h.c6, h.cm⟩
theorem RPoolAt.drewN (h : RPoolAt b sb cap q w) (n : Nat) : RPoolAt b sb cap q (w.drewN n) := ⟨h.ok, h.row, h.has, h.ne, h.c6, h.cm⟩
theorem RPoolAt.c0 (h : RPoolAt b sb cap q w) : w.cell? ⟨b, 0, none⟩ = some (.int .i64 q.total) := by rw [h.row.cell]; rfl
theorem RPoolAt.c1 (h : RPoolAt b sb cap q w) : w.cell? ⟨b, 1, none⟩ = some (.slice (some ⟨sb, 0, none⟩) 6 cap) := by rw [h.row.cell]; rfl
theorem RPoolAt.hc (h : RPoolAt b sb cap q w) {k : Nat} (hk : k < 6) : w.cell? ⟨sb, k, none⟩ = some (.int .i64 (q.at k)) := by
 rw [h.has.cell (by rw [List.length_map, h.ok.six]; exact hk), List.getElem?_map, List.getElem?_eq_getElem (by rw [h.ok.six]; exact hk)]
 have ho : ownB (k : Int) = true := ownB_iff.2 ⟨by omega, by omega⟩
 simp [QS.at, ho, h.ok.six, hk]
theorem RPoolAt.hf (h : RPoolAt b sb cap q w) (k : Nat) : w.frozen? ⟨sb, k, none⟩ = false := h.has.frozen k
theorem RPoolAt.lt (h : RPoolAt b sb cap q w) : b < w.heap.size ∧ sb < w.heap.size := ⟨h.row.lt, h.has.lt⟩
theorem RPoolAt.change (h : RPoolAt b sb cap q w) {k : Nat} (hk : k < 6) (s n : Int) (hok : (q.change k s n).Ok) :
   RPoolAt b sb cap (q.change k s n) ((w.setCell ⟨sb, k, none⟩ (.int .i64 (q.at k + s))).setCell ⟨b, 0, none⟩ (.int .i64 (q.total + n))) := by
 refine ⟨hok, (h.row.set_other (p := ⟨sb, k, none⟩) (by simp only; exact fun e => h.ne e.symm) _).set 0 _, ?_, h.ne, h.c6, h.cm⟩
 have := h.has.set (i := k) (by rw [List.length_map, h.ok.six]; exact hk) (.int .i64 (q.at k + s))
 rw [← List.map_set] at this
 exact RowPre.set_other this (p := ⟨b, 0, none⟩) (by simp only; exact fun e => h.ne e) _
theorem RPoolAt.setTotal (h : RPoolAt b sb cap q w) (t : Int) (hok : (QS.mk t q.all q.sh).Ok) : RPoolAt b sb cap ⟨t, q.all, q.sh⟩ (w.setCell ⟨b, 0, none⟩ (.int .i64 t)) :=
 ⟨hok, h.row.set 0 _, h.has.set_other (p := ⟨b, 0, none⟩) (by simp only; exact fun e => h.ne e) _, h.ne, h.c6, h.cm⟩
end
def RPoolP (b sb cap : Nat) (q : QS) (w w' : World) : Prop := Keep (fun k => k = b ∨ k = sb) w w' ∧ RPoolAt b sb cap q w'
theorem RPoolP.refl {b sb cap : Nat} {q : QS} {w : World} (h : RPoolAt b sb cap q w) : RPoolP b sb cap q w w := ⟨Keep.refl _ _, h⟩
theorem RPoolAt.changeP {b sb cap : Nat} {q : QS} {w : World} (h : RPoolAt b sb cap q w) {k : Nat} (hk : k < 6) (s n : Int) (hok : (q.change k s n).Ok) :
   RPoolP b sb cap (q.change k s n) w ((w.setCell ⟨sb, k, none⟩ (.int .i64 (q.at k + s))).setCell ⟨b, 0, none⟩ (.int .i64 (q.total + n))) :=
 ⟨((Keep.refl _ _).setCell (p := ⟨sb, k, none⟩) (.inl (.inr rfl)) _).setCell (p := ⟨b, 0, none⟩) (.inl (.inl rfl)) _, h.change hk s n hok⟩
theorem RPoolAt.totalP {b sb cap : Nat} {q : QS} {w : World} (h : RPoolAt b sb cap q w) (t : Int) (hok : (QS.mk t q.all q.sh).Ok) : RPoolP b sb cap ⟨t, q.all, q.sh⟩ w (w.setCell ⟨b, 0, none⟩ (.int .i64 t)) :=
 ⟨(Keep.refl _ _).setCell (p := ⟨b, 0, none⟩) (.inl (.inl rfl)) _, h.setTotal t hok⟩
theorem RPoolP.drewN {b sb cap : Nat} {q : QS} {w w' : World} (h : RPoolP b sb cap q w w') (n : Nat) : RPoolP b sb cap q w (w'.drewN n) := ⟨h.1.drewN n, h.2.drewN n⟩
theorem ref_Product_yes {a b c : Int} (h : overOk a b c) (w : World) :
   Calls Tryz.prog 62 #[.int .i64 a, .int .i64 b, .int .i64 c] w fun e w' => e = .returned (.tuple #[.int .i64 (overN a b c), .int .i64 (overR a b c), .bool true]) ∧ w = w' := by
 obtain ⟨_, e1, e2⟩ := over_yes h
 obtain ⟨⟨a0, a1⟩, ⟨b0, b1⟩, ⟨c0, c1⟩, hq⟩ := h
 obtain ⟨a, rfl⟩ := Int.eq_ofNat_of_zero_le a0
 obtain ⟨b, rfl⟩ := Int.eq_ofNat_of_zero_le b0
 obtain ⟨c, rfl⟩ := Int.eq_ofNat_of_zero_le (show 0 ≤ c by omega)
 have f1 : ((a : Int) * b / c) = ((a * b / c : Nat) : Int) := by simp
 have f2 : ((a : Int) * b % c) = ((a * b % c : Nat) : Int) := by simp
 rw [f1] at hq e1
 rw [f2] at e2
 have hq' : a * b / c ≤ 1125899906842624 := by clear e1 e2 f1 f2; generalize a * b / c = z at hq ⊢; omega
 have := ref_Product a b c (by omega) (by omega) (by omega) (by omega) w
 rw [rprod_yes hq'] at this
 rw [e1, e2]; exact this
theorem ref_Product_no {a b c : Int} (ha : 0 ≤ a ∧ a ≤ 1125899906842624) (hb : 0 ≤ b ∧ b ≤ 1125899906842624) (hc : 1 ≤ c ∧ c ≤ 1125899906842624) (h : ¬ overOk a b c) (w : World) :
   Calls Tryz.prog 62 #[.int .i64 a, .int .i64 b, .int .i64 c] w fun e w' => e = .returned (.tuple #[.int .i64 0, .int .i64 0, .bool false]) ∧ w = w' := by
 obtain ⟨a0, a1⟩ := ha; obtain ⟨b0, b1⟩ := hb; obtain ⟨c0, c1⟩ := hc
 obtain ⟨a, rfl⟩ := Int.eq_ofNat_of_zero_le a0
 obtain ⟨b, rfl⟩ := Int.eq_ofNat_of_zero_le b0
 obtain ⟨c, rfl⟩ := Int.eq_ofNat_of_zero_le (show 0 ≤ c by omega)
 have hq' : ¬ a * b / c ≤ 1125899906842624 := fun hq => h (over_nat (by omega) (by omega) (by omega) (by omega) hq)
 have := ref_Product a b c (by omega) (by omega) (by omega) (by omega) w
 rw [rprod_no hq'] at this
 exact this
theorem refq_New (w : World) : Calls Tryz.prog 35 #[] w fun e w' => ∃ b sb, e = .returned (.pointer (some ⟨b, 0, none⟩)) ∧ Below w.heap.size w w' ∧ w.heap.size ≤ b ∧ w.heap.size ≤ sb ∧ RPoolAt b sb 6 QS.new w' := by
 have hmk : ∀ w, (Instr.makeSlice 28 (.int .i64 6) (.int .i64 6)).run Tryz.prog w = .ok (.slice (some ⟨w.heap.size, 0, none⟩) 6 6) (w.alloc (.cells #[.int .i64 0, .int .i64 0, .int .i64 0, .int .i64 0, .int .i64 0, .int .i64 0] 3)) := fun _ => by kernel_rfl
 go_enter Tryz.func35, Tryz.ntmps35
 go_wp2
 go_ret
 refine ⟨w.heap.size + 1, w.heap.size, rfl, ((Below.refl _ _).alloc (Nat.le_refl _) _).alloc (by simp) _, by omega, Nat.le_refl _, QS.new_ok, ?_, ?_, by omega, Nat.le_refl _, by decide⟩
 · have := RowAt.new (w.alloc (.cells #[.int .i64 0, .int .i64 0, .int .i64 0, .int .i64 0, .int .i64 0, .int .i64 0] 3)) 97 [.int .i64 0, .slice (some ⟨w.heap.size, 0, none⟩) 6 6]
   have hs : (w.alloc (.cells #[.int .i64 0, .int .i64 0, .int .i64 0, .int .i64 0, .int .i64 0, .int .i64 0] 3)).heap.size = w.heap.size + 1 := by simp
   rw [hs] at this
   exact this
 · exact RowPre.of ((RowAt.new w 3 [.int .i64 0, .int .i64 0, .int .i64 0, .int .i64 0, .int .i64 0, .int .i64 0]).alloc _)
theorem refq_All (b sb cap : Nat) (q : QS) (w : World) (h : RPoolAt b sb cap q w) :
   Calls Tryz.prog 61 #[.pointer (some ⟨b, 0, none⟩)] w fun e w' => e = .returned (.int .i64 q.all) ∧ w = w' := by
 have c1 := h.c1
 have H := Lib.hid h; clear h
 have hS := Lib.hid (show (q.sh.take 6).sum = q.all by rw [List.take_of_length_le (by rw [H.out.ok.six]; exact Nat.le_refl _)]; exact H.out.ok.sumIs)
 go_enter Tryz.func61, Tryz.ntmps61
 go_wp2_with fail
 go_loop [3, 4] (fun t i => ∃ j : Nat, j ≤ 6 ∧ i = .int .i64 j ∧ t = .int .i64 (q.sh.take j).sum) (fun _ i => 6 - (intOf i).toNat)
 case atStart => exact ⟨0, by omega, rfl, rfl⟩
 case round =>
   obtain ⟨j, hj, rfl, rfl⟩ := hrel
   by_cases hj6 : j < 6
   · have ch := H.out.hc hj6
     have hb1 := H.out.ok.at_bd (j : Int)
     have ho : ownB (j : Int) = true := ownB_iff.2 ⟨by omega, by omega⟩
     have htn : (q.sh.take (j + 1)).sum = (q.sh.take j).sum + q.at (j : Int) := by
       rw [List.take_succ_eq_append_getElem (by rw [H.out.ok.six]; exact hj6), List.sum_append]
       simp [QS.at, ho, H.out.ok.six, hj6]
     have hts : 0 ≤ (q.sh.take j).sum ∧ (q.sh.take j).sum + q.at (j : Int) ≤ 1125899906842624 := by
       have h1 := (sum_le_of_nonneg (l := q.sh.take j) (fun x hx => H.out.ok.pos x (List.mem_of_mem_take hx)) 0).2.1
       have h2 := (sum_le_of_nonneg (l := q.sh.drop (j + 1)) (fun x hx => H.out.ok.pos x (List.mem_of_mem_drop hx)) 0).2.1
       have h3 : q.sh.sum = (q.sh.take (j + 1)).sum + (q.sh.drop (j + 1)).sum := by rw [← List.sum_append, List.take_append_drop]
       rw [htn] at h3
       have := H.out.ok.sumIs; have := H.out.ok.a1
       omega
     have HT := Lib.hid htn; clear htn ho
     generalize q.at (j : Int) = v at *
     generalize (q.sh.take j).sum = t at *
     go_wp2_with fail
     go_round
     case rel => exact ⟨j + 1, by omega, by go_num, by rw [HT.out]⟩
     case measure => simp [intOf]; omega
   · obtain rfl : j = 6 := by omega
     rw [hS.out]
     go_wp2
     go_ret
     exact ⟨rfl, rfl⟩
theorem refq_Shares (b sb cap : Nat) (q : QS) (o : Int) (w : World) (h : RPoolAt b sb cap q w) :
   Calls Tryz.prog 78 #[.pointer (some ⟨b, 0, none⟩), .int .i64 o] w fun e w' => e = .returned (.int .i64 (q.at o)) ∧ w = w' := by
 by_cases ho : ownB o = true
 · obtain ⟨h0, h6⟩ := ownB_iff.1 ho
   obtain ⟨k, rfl⟩ := Int.eq_ofNat_of_zero_le h0
   have hk : k < 6 := by omega
   have hc1 := h.c1
   have hck := h.hc hk
   clear h
   generalize q.at (k : Int) = x at *
   go_enter Tryz.func78, Tryz.ntmps78
   go_wp2_with (go_at_call 44; refine (ref_IsOwner _ _).mono ?_; rintro e w' ⟨rfl, rfl⟩)
   go_ret
   exact ⟨rfl, rfl⟩
 · have ho' : ownB o = false := by simpa using ho
   have HV := Lib.hid (show q.at o = 0 by unfold QS.at; rw [ho']; rfl)
   clear h ho
   go_enter Tryz.func78, Tryz.ntmps78
   go_wp2_with (go_at_call 44; refine (ref_IsOwner _ _).mono ?_; rintro e w' ⟨rfl, rfl⟩)
   go_ret
   exact ⟨by rw [HV.out]; rfl, rfl⟩
set_option maxHeartbeats 400000 in
theorem refq_Value (b sb cap : Nat) (q : QS) (o : Int) (w : World) (h : RPoolAt b sb cap q w) :
   Calls Tryz.prog 48 #[.pointer (some ⟨b, 0, none⟩), .int .i64 o] w fun e w' => e = .returned (.int .i64 (q.value o)) ∧ Dr w w' := by
 have c0 := h.c0
 have H := Lib.hid h
 by_cases hz : q.all = 0
 · have HV := Lib.hid (QS.Ok.value_nil hz o)
   have hA := Lib.hid (refq_All b sb cap q)
   have hz' : (q.all == 0) = true := by simp [hz]
   clear h hz
   go_enter Tryz.func48, Tryz.ntmps48
   go_wp2_with (go_at_call 61; refine (hA.out _ H.out).mono ?_; rintro e w' ⟨rfl, rfl⟩)
   go_ret
   exact ⟨by rw [HV.out]; rfl, Dr.refl _⟩
 · have ho := h.ok.overOk hz o
   have HV := Lib.hid (show q.value o = overN (q.at o) q.total q.all by unfold QS.value; rw [if_neg hz])
   have hz' : (q.all == 0) = false := by simp [hz]
   have hA := Lib.hid (refq_All b sb cap q)
   have hS := Lib.hid (refq_Shares b sb cap q o)
   have hP := Lib.hid (ref_Product_yes ho)
   clear h hz ho
   go_enter Tryz.func48, Tryz.ntmps48
   go_wp2_with (go_at_call 61; refine (hA.out _ H.out).mono ?_; rintro e w' ⟨rfl, rfl⟩)
   go_quiet ((first
     | (go_at_call 61; exact Calls.quiet_of_same ((hA.out _ (H.out.drewN _)).mono fun _ _ ⟨a, b⟩ => ⟨a, b.symm⟩))
     | (go_at_call 78; exact Calls.quiet_of_same ((hS.out _ (H.out.drewN _)).mono fun _ _ ⟨a, b⟩ => ⟨a, b.symm⟩))
     | (go_at_call 62; exact Calls.quiet_of_same ((hP.out _).mono fun _ _ ⟨a, b⟩ => ⟨a, b.symm⟩))))
   go_wp2
   go_ret
   exact ⟨by rw [HV.out]; rfl, _, rfl⟩
end Go.Proofs.YtajnfkmkombajaaGreatDoor
namespace Go.Proofs.YtajnfkmkombajaaGreatDoor
open Go.RowKit
theorem RPoolP.from {b sb cap k : Nat} {q : QS} {w w1 w' : World} (h : RPoolP b sb cap q w1 w') (hk : w.drewN k = w1) : RPoolP b sb cap q w w' := by
 subst hk; exact ⟨⟨h.1.os, h.1.tape, h.1.output, h.1.size, h.1.block⟩, h.2⟩
theorem plook_bad {o n : Int} (h : plookC o n ≠ 0) : ownB o = false ∨ (ownB o = true ∧ n < 1) ∨ (ownB o = true ∧ 1 ≤ n ∧ 1125899906842624 < n) := by
 cases ho : ownB o with
 | false => exact .inl rfl
 | true =>
   have : ¬ (1 ≤ n ∧ n ≤ 1125899906842624) := fun hn => h (plookC_zero.2 ⟨ho, hn⟩)
   have hw : n < 1 ∨ (1 ≤ n ∧ 1125899906842624 < n) := by omega
   rcases hw with hw | ⟨h1, h2⟩
   · exact .inr (.inl ⟨rfl, hw⟩)
   · exact .inr (.inr ⟨rfl, h1, h2⟩)
set_option maxRecDepth 8000 in
set_option maxHeartbeats 1000000 in
theorem refq_Join (b sb cap : Nat) (q : QS) (o n : Int) (w : World) (h : RPoolAt b sb cap q w) :
   Calls Tryz.prog 37 #[.pointer (some ⟨b, 0, none⟩), .int .i64 o, .int .i64 n] w fun e w' => e = .returned (.int .i64 (q.joinOp o n).1) ∧ RPoolP b sb cap (q.joinOp o n).2 w w' := by
 by_cases hl : plookC o n = 0
 · obtain ⟨ho, n0, n1⟩ := plookC_zero.1 hl
   obtain ⟨h0, h6⟩ := ownB_iff.1 ho
   obtain ⟨k, rfl⟩ := Int.eq_ofNat_of_zero_le h0
   have hk : k < 6 := by omega
   have c0 := h.c0
   have c1 := h.c1
   have ck := h.hc hk
   have fk := h.hf k
   have f0 := h.row.frozen 0
   have hne := h.ne
   have H := Lib.hid h
   have hA := Lib.hid (refq_All b sb cap q)
   have t0 := h.ok.t0; have t1 := h.ok.t1; have a0 := h.ok.all0; have a1 := h.ok.a1
   have bk := h.ok.at_bd (k : Int)
   have HO := Lib.hid (QS.joinOp_ok h.ok (k : Int) n)
   by_cases hz : 0 < q.all
   · by_cases ht : q.total = 0
     · have E := Lib.hid (join_gone hl hz ht)
       rw [ht] at c0
       clear h hl HO h0 h6 t0 t1
       go_enter Tryz.func37, Tryz.ntmps37
       go_wp2_with (first | (go_at_call 44; refine (ref_IsOwner _ _).mono ?_; rintro e w' ⟨rfl, rfl⟩) | (go_at_call 61; refine (hA.out _ H.out).mono ?_; rintro e w' ⟨rfl, rfl⟩))
       go_ret
       rw [E.out]
       exact ⟨rfl, RPoolP.refl H.out⟩
     · have ht' : (q.total == 0) = false := by simp [ht]
       by_cases hv : overOk n q.all q.total
       · have E0 := join_in hl hz ht hv
         have hs0 : 0 ≤ n * q.all / q.total := Int.ediv_nonneg (Int.mul_nonneg (by omega) (by omega)) (by omega)
         have hs1 := hv.2.2.2
         have HP := Lib.hid (ref_Product_yes hv)
         rw [(over_yes hv).2.1] at HP
         have ho2 := HO.out
         rw [E0] at ho2
         generalize n * q.all / q.total = s at *
         generalize overR n q.all q.total = r at *
         have HC := Lib.hid (h.changeP hk s n)
         clear h hl hv HO h0 h6
         generalize hx : q.at (k : Int) = x at *
         generalize hT : q.total = T at *
         generalize hU : q.all = U at *
         clear hx hT hU
         by_cases hb1 : T + n ≤ 1125899906842624
         · by_cases hb2 : U + s ≤ 1125899906842624
           · rw [if_neg (by omega)] at E0 ho2
             by_cases hsz : s = 0
             · rw [if_pos hsz] at E0
               have E := Lib.hid E0
               subst hsz
               clear E0 ho2
               go_enter Tryz.func37, Tryz.ntmps37
               go_wp2_with (first | (go_at_call 44; refine (ref_IsOwner _ _).mono ?_; rintro e w' ⟨rfl, rfl⟩) | (go_at_call 61; refine (hA.out _ H.out).mono ?_; rintro e w' ⟨rfl, rfl⟩) | (go_at_call 62; refine (HP.out _).mono ?_; rintro e w' ⟨rfl, rfl⟩))
               go_ret
               rw [E.out]
               exact ⟨rfl, RPoolP.refl H.out⟩
             · rw [if_neg hsz] at E0 ho2
               have hsz' : (s == 0) = false := by simp [hsz]
               have E := Lib.hid E0
               have HC2 := Lib.hid (HC.out ho2)
               clear E0 ho2 HC hsz
               go_enter Tryz.func37, Tryz.ntmps37
               go_wp2_with (first | (go_at_call 44; refine (ref_IsOwner _ _).mono ?_; rintro e w' ⟨rfl, rfl⟩) | (go_at_call 61; refine (hA.out _ H.out).mono ?_; rintro e w' ⟨rfl, rfl⟩) | (go_at_call 62; refine (HP.out _).mono ?_; rintro e w' ⟨rfl, rfl⟩))
               go_region
               go_wp2_with fail
               go_ret
               rw [E.out]
               exact ⟨rfl, HC2.out.drewN 1⟩
           · rw [if_pos (by omega)] at E0
             have E := Lib.hid E0
             have hd1 : decide (1125899906842624 < T + n) = false := decide_eq_false (by omega)
             have hd2 : decide (1125899906842624 < U + s) = true := decide_eq_true (by omega)
             clear E0 ho2 HC
             go_enter Tryz.func37, Tryz.ntmps37
             go_wp2_with (first | (go_at_call 44; refine (ref_IsOwner _ _).mono ?_; rintro e w' ⟨rfl, rfl⟩) | (go_at_call 61; refine (hA.out _ H.out).mono ?_; rintro e w' ⟨rfl, rfl⟩) | (go_at_call 62; refine (HP.out _).mono ?_; rintro e w' ⟨rfl, rfl⟩))
             go_ret
             rw [E.out]
             exact ⟨rfl, RPoolP.refl H.out⟩
         · rw [if_pos (by omega)] at E0
           have E := Lib.hid E0
           have hd1 : decide (1125899906842624 < T + n) = true := decide_eq_true (by omega)
           clear E0 ho2 HC
           go_enter Tryz.func37, Tryz.ntmps37
           go_wp2_with (first | (go_at_call 44; refine (ref_IsOwner _ _).mono ?_; rintro e w' ⟨rfl, rfl⟩) | (go_at_call 61; refine (hA.out _ H.out).mono ?_; rintro e w' ⟨rfl, rfl⟩) | (go_at_call 62; refine (HP.out _).mono ?_; rintro e w' ⟨rfl, rfl⟩))
           go_ret
           rw [E.out]
           exact ⟨rfl, RPoolP.refl H.out⟩
       · have E := Lib.hid (join_over hl hz ht hv)
         have HP := Lib.hid (ref_Product_no (a := n) (b := q.all) (c := q.total) ⟨by omega, n1⟩ ⟨a0, a1⟩ ⟨by omega, t1⟩ hv)
         clear h hl hv HO h0 h6
         go_enter Tryz.func37, Tryz.ntmps37
         go_wp2_with (first | (go_at_call 44; refine (ref_IsOwner _ _).mono ?_; rintro e w' ⟨rfl, rfl⟩) | (go_at_call 61; refine (hA.out _ H.out).mono ?_; rintro e w' ⟨rfl, rfl⟩) | (go_at_call 62; refine (HP.out _).mono ?_; rintro e w' ⟨rfl, rfl⟩))
         go_ret
         rw [E.out]
         exact ⟨rfl, RPoolP.refl H.out⟩
   · have hz0 : q.all = 0 := by omega
     have ht0 := h.ok.nil hz0
     have E := Lib.hid (join_first h.ok hl hz0)
     have ho2 := HO.out
     rw [E.out] at ho2
     have HC2 := Lib.hid (h.changeP hk n n ho2)
     have hnz : (n == 0) = false := by simp; omega
     clear h hl HO h0 h6 ho2 hz t0 t1 a0 a1
     have HZ := Lib.hid hz0; have HT := Lib.hid ht0
     rw [ht0] at c0
     rw [ht0, Int.zero_add] at HC2
     have hA0 : Hid (∀ w, RPoolAt b sb cap q w → Calls Tryz.prog 61 #[.pointer (some ⟨b, 0, none⟩)] w fun e w' => e = .returned (.int .i64 0) ∧ w = w') := (fun w hp => by rw [← HZ.out]; exact hA.out w hp : ∀ w, RPoolAt b sb cap q w → Calls Tryz.prog 61 #[.pointer (some ⟨b, 0, none⟩)] w fun e w' => e = .returned (.int .i64 0) ∧ w = w')
     rw [hz0] at bk
     clear hz0 ht0 hA
     generalize hx : q.at (k : Int) = x at *
     clear hx
     go_enter Tryz.func37, Tryz.ntmps37
     go_wp2_with (first | (go_at_call 44; refine (ref_IsOwner _ _).mono ?_; rintro e w' ⟨rfl, rfl⟩) | (go_at_call 61; refine (hA0.out _ H.out).mono ?_; rintro e w' ⟨rfl, rfl⟩))
     go_region
     go_wp2_with fail
     go_ret
     rw [E.out]
     exact ⟨rfl, HC2.out.drewN 1⟩
 · have E := Lib.hid (join_no hl (q := q))
   have H := Lib.hid h
   have hw := plook_bad hl
   clear h hl
   rcases hw with h1 | ⟨h1, h2⟩ | ⟨h1, h2, h3⟩
   all_goals
     go_enter Tryz.func37, Tryz.ntmps37
     go_wp2_with (go_at_call 44; refine (ref_IsOwner _ _).mono ?_; rintro e w' ⟨rfl, rfl⟩)
     go_ret
     rw [E.out]
     exact ⟨rfl, RPoolP.refl H.out⟩
set_option maxRecDepth 8000 in
set_option maxHeartbeats 1000000 in
theorem refq_Take (b sb cap : Nat) (q : QS) (o n : Int) (w : World) (h : RPoolAt b sb cap q w) :
   Calls Tryz.prog 42 #[.pointer (some ⟨b, 0, none⟩), .int .i64 o, .int .i64 n] w fun e w' => e = .returned (.int .i64 (q.takeOp o n).1) ∧ RPoolP b sb cap (q.takeOp o n).2 w w' := by
 by_cases hl : plookC o n = 0
 · obtain ⟨ho, n0, n1⟩ := plookC_zero.1 hl
   obtain ⟨h0, h6⟩ := ownB_iff.1 ho
   obtain ⟨k, rfl⟩ := Int.eq_ofNat_of_zero_le h0
   have hk : k < 6 := by omega
   have c0 := h.c0
   have c1 := h.c1
   have ck := h.hc hk
   have fk := h.hf k
   have f0 := h.row.frozen 0
   have hne := h.ne
   have H := Lib.hid h
   have hA := Lib.hid (refq_All b sb cap q)
   have hV := Lib.hid (refq_Value b sb cap q (k : Int))
   have t0 := h.ok.t0; have t1 := h.ok.t1; have a0 := h.ok.all0; have a1 := h.ok.a1
   have bk := h.ok.at_bd (k : Int)
   have bv := h.ok.value_bd (k : Int)
   by_cases hs : q.value k < n
   · have E := Lib.hid (take_short hl hs)
     clear h hl h0 h6
     generalize q.value (k : Int) = v at *
     go_enter Tryz.func42, Tryz.ntmps42
     go_wp2_with (first | (go_at_call 44; refine (ref_IsOwner _ _).mono ?_; rintro e w' ⟨rfl, rfl⟩) | (go_at_call 48; refine (hV.out _ H.out).mono ?_; rintro e w' ⟨rfl, d, rfl⟩))
     go_ret
     rw [E.out]
     exact ⟨rfl, (RPoolP.refl H.out).drewN _⟩
   · obtain ⟨u0, u1, u2, u3, u4, u5⟩ := h.ok.take_bd (o := (k : Int)) n0 (by omega)
     obtain ⟨hv, hup⟩ := up_parts u0
     have HP := Lib.hid (ref_Product_yes hv)
     have hr0 : 0 ≤ n * q.all % q.total := Int.emod_nonneg _ (by omega)
     rw [(over_yes hv).2.1, (over_yes hv).2.2] at HP
     have hs0 : 0 ≤ n * q.all / q.total := Int.ediv_nonneg (Int.mul_nonneg (by omega) (by omega)) (by omega)
     have hs1 := hv.2.2.2
     have ET := Lib.hid (fun hx => take_in (q := q) (o := (k : Int)) (n := n) hl hs hx)
     have ES := Lib.hid (fun hx => take_all (q := q) (o := (k : Int)) (n := n) hl hs hx)
     have HO := Lib.hid (QS.takeOp_ok h.ok (k : Int) n)
     clear h hl h0 h6 hv u0 u3
     generalize n * q.all / q.total = s at *
     generalize n * q.all % q.total = r at *
     generalize upN n q.all q.total = u at *
     have hv2 : n ≤ q.value k := by omega
     generalize q.value (k : Int) = v at *
     have hk6 := hk
     by_cases hr : r = 0
     · rw [if_pos hr, Int.add_zero] at hup
       subst hup hr
       by_cases hall : u = q.all ∧ n < q.total
       · have E := Lib.hid (ES.out hall)
         obtain ⟨ha, hb⟩ := hall
         have hsa : (u == q.all) = true := by simp [ha]
         clear ET ES HO ha
         go_enter Tryz.func42, Tryz.ntmps42
         go_wp2_with (first | (go_at_call 44; refine (ref_IsOwner _ _).mono ?_; rintro e w' ⟨rfl, rfl⟩) | (go_at_call 48; refine (hV.out _ H.out).mono ?_; rintro e w1 ⟨rfl, d, hk⟩; have H1 : Hid (RPoolAt b sb cap q w1) := (by rw [← hk]; exact H.out.drewN d : RPoolAt b sb cap q w1); have c0 := H1.out.c0; have c1 := H1.out.c1; have ck := H1.out.hc hk6; have fk := H1.out.hf k; have f0 := H1.out.row.frozen 0; have HK := Lib.hid hk; clear hk))
         go_quiet ((first | (go_at_call 61; exact Calls.quiet_of_same ((hA.out _ (H1.out.drewN _)).mono fun _ _ ⟨a, b⟩ => ⟨a, b.symm⟩)) | (go_at_call 62; exact Calls.quiet_of_same ((HP.out _).mono fun _ _ ⟨a, b⟩ => ⟨a, b.symm⟩))))
         go_wp2_with (go_at_call 61; refine (hA.out _ (H1.out.drewN _)).mono ?_; rintro e w' ⟨rfl, rfl⟩)
         go_ret
         rw [E.out]
         exact ⟨rfl, ((RPoolP.refl H1.out).drewN _).from HK.out⟩
       · have E0 := ET.out hall
         have ho2 := HO.out
         rw [E0] at ho2
         have E := Lib.hid E0
         have HC0 := Lib.hid (fun wx (hp : RPoolAt b sb cap q wx) => hp.changeP hk6 (-u) (-n) ho2)
         simp only [← Int.sub_eq_add_neg] at HC0
         clear ET ES HO E0 ho2
         by_cases ha : u = q.all
         · have hsa : (u == q.all) = true := by simp [ha]
           have hb : decide (n < q.total) = false := decide_eq_false (fun h => hall ⟨ha, h⟩)
           clear hall
           have HAl := Lib.hid ha; clear ha
           go_enter Tryz.func42, Tryz.ntmps42
           go_wp2_with (first | (go_at_call 44; refine (ref_IsOwner _ _).mono ?_; rintro e w' ⟨rfl, rfl⟩) | (go_at_call 48; refine (hV.out _ H.out).mono ?_; rintro e w1 ⟨rfl, d, hk⟩; have H1 : Hid (RPoolAt b sb cap q w1) := (by rw [← hk]; exact H.out.drewN d : RPoolAt b sb cap q w1); have c0 := H1.out.c0; have c1 := H1.out.c1; have ck := H1.out.hc hk6; have fk := H1.out.hf k; have f0 := H1.out.row.frozen 0; have HK := Lib.hid hk; clear hk))
           go_quiet ((first | (go_at_call 61; exact Calls.quiet_of_same ((hA.out _ (H1.out.drewN _)).mono fun _ _ ⟨a, b⟩ => ⟨a, b.symm⟩)) | (go_at_call 62; exact Calls.quiet_of_same ((HP.out _).mono fun _ _ ⟨a, b⟩ => ⟨a, b.symm⟩))))
           go_wp2_with (go_at_call 61; refine (hA.out _ (H1.out.drewN _)).mono ?_; rintro e w' ⟨rfl, rfl⟩)
           have HC := Lib.hid (HC0.out _ (H1.out.drewN nq)); clear HC0
           go_region
           go_wp2_with fail
           go_ret
           rw [E.out]
           exact ⟨rfl, ((HC.out.drewN 1).from (w := w1) (k := nq) rfl).from HK.out⟩
         · have hsa : (u == q.all) = false := by simp [ha]
           clear hall ha
           go_enter Tryz.func42, Tryz.ntmps42
           go_wp2_with (first | (go_at_call 44; refine (ref_IsOwner _ _).mono ?_; rintro e w' ⟨rfl, rfl⟩) | (go_at_call 48; refine (hV.out _ H.out).mono ?_; rintro e w1 ⟨rfl, d, hk⟩; have H1 : Hid (RPoolAt b sb cap q w1) := (by rw [← hk]; exact H.out.drewN d : RPoolAt b sb cap q w1); have c0 := H1.out.c0; have c1 := H1.out.c1; have ck := H1.out.hc hk6; have fk := H1.out.hf k; have f0 := H1.out.row.frozen 0; have HK := Lib.hid hk; clear hk))
           go_quiet ((first | (go_at_call 61; exact Calls.quiet_of_same ((hA.out _ (H1.out.drewN _)).mono fun _ _ ⟨a, b⟩ => ⟨a, b.symm⟩)) | (go_at_call 62; exact Calls.quiet_of_same ((HP.out _).mono fun _ _ ⟨a, b⟩ => ⟨a, b.symm⟩))))
           go_wp2_with (go_at_call 61; refine (hA.out _ (H1.out.drewN _)).mono ?_; rintro e w' ⟨rfl, rfl⟩)
           have HC := Lib.hid (HC0.out _ (H1.out.drewN nq)); clear HC0
           go_region
           go_wp2_with fail
           go_ret
           rw [E.out]
           exact ⟨rfl, ((HC.out.drewN 1).from (w := w1) (k := nq) rfl).from HK.out⟩
     · rw [if_neg hr] at hup
       have hr1 : decide (0 < r) = true := decide_eq_true (by omega)
       have HUp := Lib.hid hup
       have hs1u : s + 1 = u := hup.symm
       clear hup hr
       by_cases hall : u = q.all ∧ n < q.total
       · have E := Lib.hid (ES.out hall)
         obtain ⟨ha, hb⟩ := hall
         have hsa : (u == q.all) = true := by simp [ha]
         clear ET ES HO ha
         go_enter Tryz.func42, Tryz.ntmps42
         go_wp2_with (first | (go_at_call 44; refine (ref_IsOwner _ _).mono ?_; rintro e w' ⟨rfl, rfl⟩) | (go_at_call 48; refine (hV.out _ H.out).mono ?_; rintro e w1 ⟨rfl, d, hk⟩; have H1 : Hid (RPoolAt b sb cap q w1) := (by rw [← hk]; exact H.out.drewN d : RPoolAt b sb cap q w1); have c0 := H1.out.c0; have c1 := H1.out.c1; have ck := H1.out.hc hk6; have fk := H1.out.hf k; have f0 := H1.out.row.frozen 0; have HK := Lib.hid hk; clear hk))
         go_quiet ((first | (go_at_call 61; exact Calls.quiet_of_same ((hA.out _ (H1.out.drewN _)).mono fun _ _ ⟨a, b⟩ => ⟨a, b.symm⟩)) | (go_at_call 62; exact Calls.quiet_of_same ((HP.out _).mono fun _ _ ⟨a, b⟩ => ⟨a, b.symm⟩))))
         go_wp2_with (go_at_call 61; refine (hA.out _ (H1.out.drewN _)).mono ?_; rintro e w' ⟨rfl, rfl⟩)
         go_ret
         rw [E.out]
         exact ⟨rfl, ((RPoolP.refl H1.out).drewN _).from HK.out⟩
       · have E0 := ET.out hall
         have ho2 := HO.out
         rw [E0] at ho2
         have E := Lib.hid E0
         have HC0 := Lib.hid (fun wx (hp : RPoolAt b sb cap q wx) => hp.changeP hk6 (-u) (-n) ho2)
         simp only [← Int.sub_eq_add_neg] at HC0
         clear ET ES HO E0 ho2
         by_cases ha : u = q.all
         · have hsa : (u == q.all) = true := by simp [ha]
           have hb : decide (n < q.total) = false := decide_eq_false (fun h => hall ⟨ha, h⟩)
           clear hall
           have HAl := Lib.hid ha; clear ha
           go_enter Tryz.func42, Tryz.ntmps42
           go_wp2_with (first | (go_at_call 44; refine (ref_IsOwner _ _).mono ?_; rintro e w' ⟨rfl, rfl⟩) | (go_at_call 48; refine (hV.out _ H.out).mono ?_; rintro e w1 ⟨rfl, d, hk⟩; have H1 : Hid (RPoolAt b sb cap q w1) := (by rw [← hk]; exact H.out.drewN d : RPoolAt b sb cap q w1); have c0 := H1.out.c0; have c1 := H1.out.c1; have ck := H1.out.hc hk6; have fk := H1.out.hf k; have f0 := H1.out.row.frozen 0; have HK := Lib.hid hk; clear hk))
           go_quiet ((first | (go_at_call 61; exact Calls.quiet_of_same ((hA.out _ (H1.out.drewN _)).mono fun _ _ ⟨a, b⟩ => ⟨a, b.symm⟩)) | (go_at_call 62; exact Calls.quiet_of_same ((HP.out _).mono fun _ _ ⟨a, b⟩ => ⟨a, b.symm⟩))))
           go_wp2_with (go_at_call 61; refine (hA.out _ (H1.out.drewN _)).mono ?_; rintro e w' ⟨rfl, rfl⟩)
           have HC := Lib.hid (HC0.out _ (H1.out.drewN nq)); clear HC0
           go_region
           go_wp2_with fail
           go_ret
           rw [E.out]
           exact ⟨rfl, ((HC.out.drewN 1).from (w := w1) (k := nq) rfl).from HK.out⟩
         · have hsa : (u == q.all) = false := by simp [ha]
           clear hall ha
           go_enter Tryz.func42, Tryz.ntmps42
           go_wp2_with (first | (go_at_call 44; refine (ref_IsOwner _ _).mono ?_; rintro e w' ⟨rfl, rfl⟩) | (go_at_call 48; refine (hV.out _ H.out).mono ?_; rintro e w1 ⟨rfl, d, hk⟩; have H1 : Hid (RPoolAt b sb cap q w1) := (by rw [← hk]; exact H.out.drewN d : RPoolAt b sb cap q w1); have c0 := H1.out.c0; have c1 := H1.out.c1; have ck := H1.out.hc hk6; have fk := H1.out.hf k; have f0 := H1.out.row.frozen 0; have HK := Lib.hid hk; clear hk))
           go_quiet ((first | (go_at_call 61; exact Calls.quiet_of_same ((hA.out _ (H1.out.drewN _)).mono fun _ _ ⟨a, b⟩ => ⟨a, b.symm⟩)) | (go_at_call 62; exact Calls.quiet_of_same ((HP.out _).mono fun _ _ ⟨a, b⟩ => ⟨a, b.symm⟩))))
           go_wp2_with (go_at_call 61; refine (hA.out _ (H1.out.drewN _)).mono ?_; rintro e w' ⟨rfl, rfl⟩)
           have HC := Lib.hid (HC0.out _ (H1.out.drewN nq)); clear HC0
           go_region
           go_wp2_with fail
           go_ret
           rw [E.out]
           exact ⟨rfl, ((HC.out.drewN 1).from (w := w1) (k := nq) rfl).from HK.out⟩
 · have E := Lib.hid (take_no hl (q := q))
   have H := Lib.hid h
   have hw := plook_bad hl
   clear h hl
   rcases hw with h1 | ⟨h1, h2⟩ | ⟨h1, h2, h3⟩
   all_goals
     go_enter Tryz.func42, Tryz.ntmps42
     go_wp2_with (go_at_call 44; refine (ref_IsOwner _ _).mono ?_; rintro e w' ⟨rfl, rfl⟩)
     go_ret
     rw [E.out]
     exact ⟨rfl, RPoolP.refl H.out⟩
end Go.Proofs.YtajnfkmkombajaaGreatDoor
namespace Go.Proofs.YtajnfkmkombajaaGreatDoor
open Go.RowKit
set_option maxRecDepth 8000 in
set_option maxHeartbeats 1000000 in
theorem refq_Leave (b sb cap : Nat) (q : QS) (o : Int) (w : World) (h : RPoolAt b sb cap q w) :
   Calls Tryz.prog 65 #[.pointer (some ⟨b, 0, none⟩), .int .i64 o] w fun e w' => e = .returned (.tuple #[.int .i64 (q.leaveOp o).1, .int .i64 (q.leaveOp o).2.1]) ∧ RPoolP b sb cap (q.leaveOp o).2.2 w w' := by
 by_cases ho : ownB o = true
 · obtain ⟨h0, h6⟩ := ownB_iff.1 ho
   obtain ⟨k, rfl⟩ := Int.eq_ofNat_of_zero_le h0
   have hk : k < 6 := by omega
   have hk6 := hk
   have c0 := h.c0
   have c1 := h.c1
   have ck := h.hc hk
   have H := Lib.hid h
   by_cases hz : q.at k = 0
   · have E := Lib.hid (show q.leaveOp k = (0, 4, q) by unfold QS.leaveOp; rw [if_neg (by rw [ho]; simp), if_pos hz])
     rw [hz] at ck
     clear h hz h0 h6
     go_enter Tryz.func65, Tryz.ntmps65
     go_wp2_with (go_at_call 44; refine (ref_IsOwner _ _).mono ?_; rintro e w' ⟨rfl, rfl⟩)
     go_ret2
     rw [E.out]
     exact ⟨rfl, RPoolP.refl H.out⟩
   · have hz' : (q.at k == 0) = false := by simp [hz]
     have hj : q.leaveOp k = (q.value k, 0, q.change k (-q.at k) (-q.value k)) := by unfold QS.leaveOp; rw [if_neg (by rw [ho]; simp), if_neg hz]
     have E := Lib.hid hj
     have hok := QS.leaveOp_ok h.ok (k : Int)
     rw [hj] at hok
     have hV := Lib.hid (refq_Value b sb cap q (k : Int))
     have bv := h.ok.value_bd (k : Int)
     have t0 := h.ok.t0; have t1 := h.ok.t1
     have HC0 := Lib.hid (fun wx (hp : RPoolAt b sb cap q wx) => hp.changeP hk6 (-q.at k) (-q.value k) hok)
     rw [show q.at k + -q.at k = 0 by omega] at HC0
     simp only [← Int.sub_eq_add_neg] at HC0
     clear h hj hok hz h0 h6
     go_enter Tryz.func65, Tryz.ntmps65
     go_wp2_with (first | (go_at_call 44; refine (ref_IsOwner _ _).mono ?_; rintro e w' ⟨rfl, rfl⟩) | (go_at_call 48; refine (hV.out _ H.out).mono ?_; rintro e w1 ⟨rfl, d, hk⟩; have H1 : Hid (RPoolAt b sb cap q w1) := (by rw [← hk]; exact H.out.drewN d : RPoolAt b sb cap q w1); have c0 := H1.out.c0; have c1 := H1.out.c1; have ck := H1.out.hc hk6; have fk := H1.out.hf k; have f0 := H1.out.row.frozen 0; have hne := H1.out.ne; have HK := Lib.hid hk; clear hk; have HC := Lib.hid (HC0.out _ H1.out)))
     go_ret2
     rw [E.out]
     first
       | exact ⟨rfl, HC.out.from HK.out⟩
       | exact ⟨rfl, (HC.out.drewN 1).from HK.out⟩
 · have ho' : ownB o = false := by simpa using ho
   have E := Lib.hid (show q.leaveOp o = (0, 2, q) by unfold QS.leaveOp; rw [if_pos ho'])
   have H := Lib.hid h
   clear h ho
   go_enter Tryz.func65, Tryz.ntmps65
   go_wp2_with (go_at_call 44; refine (ref_IsOwner _ _).mono ?_; rintro e w' ⟨rfl, rfl⟩)
   go_ret2
   rw [E.out]
   exact ⟨rfl, RPoolP.refl H.out⟩
set_option maxRecDepth 8000 in
theorem refq_Add (b sb cap : Nat) (q : QS) (n : Int) (w : World) (h : RPoolAt b sb cap q w) :
   Calls Tryz.prog 132 #[.pointer (some ⟨b, 0, none⟩), .int .i64 n] w fun e w' => e = .returned (.int .i64 (q.addOp n).1) ∧ RPoolP b sb cap (q.addOp n).2 w w' := by
 have c0 := h.c0
 have f0 := h.row.frozen 0
 have H := Lib.hid h
 have t0 := h.ok.t0
 have t1 := h.ok.t1
 have hA := Lib.hid (refq_All b sb cap q)
 have HOK := Lib.hid (QS.addOp_ok h.ok n)
 by_cases hn : amtB n = true
 · obtain ⟨n0, n1⟩ := amtB_iff.1 hn
   by_cases hz : q.all = 0
   · have E1 := Lib.hid (show q.addOp n = (4, q) by unfold QS.addOp; rw [if_neg (by rw [hn]; simp), if_pos hz])
     have hz' : (q.all == 0) = true := by simp [hz]
     clear h HOK hz
     go_enter Tryz.func132, Tryz.ntmps132
     go_wp2_with (first | (go_at_call 60; refine (refb_IsAmount _ _).mono ?_; rintro e w' ⟨rfl, rfl⟩) | (go_at_call 61; refine (hA.out _ H.out).mono ?_; rintro e w' ⟨rfl, rfl⟩))
     go_ret
     rw [E1.out]
     exact ⟨rfl, RPoolP.refl H.out⟩
   · have hz' : (q.all == 0) = false := by simp [hz]
     by_cases ht : q.total + n ≤ 1125899906842624
     · have hj : q.addOp n = (0, ⟨q.total + n, q.all, q.sh⟩) := by unfold QS.addOp; rw [if_neg (by rw [hn]; simp), if_neg hz, if_neg (by omega)]
       have E1 := Lib.hid hj
       have hok := HOK.out; rw [hj] at hok
       have HS := Lib.hid (H.out.totalP _ hok)
       clear h HOK hok hj hz
       generalize q.total = T at *
       have hd : decide (1125899906842624 < T + n) = false := decide_eq_false (by omega)
       go_enter Tryz.func132, Tryz.ntmps132
       go_wp2_with (first | (go_at_call 60; refine (refb_IsAmount _ _).mono ?_; rintro e w' ⟨rfl, rfl⟩) | (go_at_call 61; refine (hA.out _ H.out).mono ?_; rintro e w' ⟨rfl, rfl⟩))
       go_ret
       rw [E1.out]
       exact ⟨rfl, HS.out⟩
     · have E1 := Lib.hid (show q.addOp n = (2, q) by unfold QS.addOp; rw [if_neg (by rw [hn]; simp), if_neg hz, if_pos (by omega)])
       clear h HOK hz
       generalize q.total = T at *
       have hd : decide (1125899906842624 < T + n) = true := decide_eq_true (by omega)
       go_enter Tryz.func132, Tryz.ntmps132
       go_wp2_with (first | (go_at_call 60; refine (refb_IsAmount _ _).mono ?_; rintro e w' ⟨rfl, rfl⟩) | (go_at_call 61; refine (hA.out _ H.out).mono ?_; rintro e w' ⟨rfl, rfl⟩))
       go_ret
       rw [E1.out]
       exact ⟨rfl, RPoolP.refl H.out⟩
 · have hn' : amtB n = false := by simpa using hn
   have E1 := Lib.hid (show q.addOp n = (2, q) by unfold QS.addOp; rw [if_pos hn'])
   clear h HOK hn
   go_enter Tryz.func132, Tryz.ntmps132
   go_wp2_with (go_at_call 60; refine (refb_IsAmount _ _).mono ?_; rintro e w' ⟨rfl, rfl⟩)
   go_ret
   rw [E1.out]
   exact ⟨rfl, RPoolP.refl H.out⟩
set_option maxRecDepth 8000 in
theorem refq_Slash (b sb cap : Nat) (q : QS) (n : Int) (w : World) (h : RPoolAt b sb cap q w) :
   Calls Tryz.prog 159 #[.pointer (some ⟨b, 0, none⟩), .int .i64 n] w fun e w' => e = .returned (.tuple #[.int .i64 (q.slashOp n).1, .int .i64 (q.slashOp n).2.1]) ∧ RPoolP b sb cap (q.slashOp n).2.2 w w' := by
 have c0 := h.c0
 have f0 := h.row.frozen 0
 have H := Lib.hid h
 have t0 := h.ok.t0
 have t1 := h.ok.t1
 have HOK := Lib.hid (QS.slashOp_ok h.ok n)
 by_cases hn : n < 0 ∨ 100 < n
 · have E1 := Lib.hid (show q.slashOp n = (0, 2, q) by unfold QS.slashOp; rw [if_pos hn])
   have hcases : n < 0 ∨ (0 ≤ n ∧ 100 < n) := by omega
   clear h HOK hn
   rcases hcases with d1 | ⟨d1, d2⟩
   all_goals
     go_enter Tryz.func159, Tryz.ntmps159
     go_wp2
     go_ret2
     rw [E1.out]
     exact ⟨rfl, RPoolP.refl H.out⟩
 · have hj : q.slashOp n = (q.total * n / 100, 0, ⟨q.total - q.total * n / 100, q.all, q.sh⟩) := by unfold QS.slashOp; rw [if_neg hn]
   have E1 := Lib.hid hj
   have hok := HOK.out; rw [hj] at hok
   have n0 : 0 ≤ n := by omega
   have n1 : n ≤ 100 := by omega
   have hb := slash_bd t0 n0 n1
   have HS := Lib.hid (H.out.totalP _ hok)
   obtain ⟨s1, ⟨s2, s3⟩, ⟨s4, s5⟩, ⟨s6, s7⟩, ⟨s8, s9⟩, s10, s11⟩ := slash_doc t0 t1 n0 n1
   have e1 : q.total.tdiv 100 = q.total / 100 := Int.tdiv_eq_ediv_of_nonneg t0
   have e2 : q.total.tmod 100 = q.total % 100 := Int.tmod_eq_emod_of_nonneg t0
   have e3 : (q.total % 100 * n).tdiv 100 = q.total % 100 * n / 100 := Int.tdiv_eq_ediv_of_nonneg s8
   have HSum := Lib.hid s1
   clear h HOK hok hj hn s1
   obtain ⟨z, hz⟩ : ∃ z, q.total / 100 * n = z := ⟨_, rfl⟩
   obtain ⟨v, hv⟩ : ∃ v, q.total % 100 * n = v := ⟨_, rfl⟩
   obtain ⟨y, hy⟩ : ∃ y, v / 100 = y := ⟨_, rfl⟩
   rw [hv] at e3 s8 s9 s10 s11 HSum
   rw [hy] at e3 s10 s11 HSum
   rw [hz] at s6 s7 HSum
   have hyy : y ≤ v := by omega
   clear hy
   generalize q.total * n / 100 = x at *
   generalize q.total / 100 = u at *
   generalize q.total % 100 = t at *
   generalize q.total = T at *
   have hxt : z + y ≤ T := by have := HSum.out; omega
   have w1 : wrap64 z = z := IntWalk.wrap64_in _ ⟨by omega, by omega⟩
   have w2 : wrap64 v = v := IntWalk.wrap64_in _ ⟨by omega, by omega⟩
   have w3 : wrap64 y = y := IntWalk.wrap64_in _ ⟨by omega, by omega⟩
   go_enter Tryz.func159, Tryz.ntmps159
   go_wp2_with fail
   go_ret2
   rw [E1.out]
   have hs := HSum.out
   subst hs
   exact ⟨rfl, HS.out⟩
end Go.Proofs.YtajnfkmkombajaaGreatDoor
namespace Go.Proofs.YtajnfkmkombajaaGreatDoor
open Go.RowKit Go.Maps
theorem ev_equal (d : Nat) (x y : EV) (w : World) : (Op.equalIn (d + 2) 61 (evV x) (evV y)).run Tryz.prog w = .ok (decide (x = y)) w := by
 have hu := Tryz.underlying61
 have hui := Tryz.underlying3
 have hsz : ∀ w, (sizeOf 3).run Tryz.prog w = .ok 1 w := fun w => by kernel_rfl
 unfold evV
 rw [run_equalIn_agg _ _ _ _ _ (by unfold Program.fieldsOf; rw [hu]) (by kernel_rfl)]
 unfold Program.fieldsOf
 rw [hu]
 obtain ⟨xb, xc, xn⟩ := x
 obtain ⟨yb, yc, yn⟩ := y
 simp [Op.eqFields, part, run_equalIn_int w _ _ .i64 .i64 _ _ hui, Result.andThen]
 by_cases h1 : xb = yb
 · by_cases h2 : xc = yc
   · by_cases h3 : xn = yn
     · simp [h1, h2, h3]
     · simp [h1, h2, h3]
   · simp [h1, h2]
 · simp [h1]
theorem ev_eql (x y : EV) (w : World) : (binOp .eql 61 (evV x) (evV y)).run Tryz.prog w = .ok (.bool (decide (x = y))) w := by
 have h := ev_equal 9998 x y w
 unfold evV at h ⊢
 rw [run_eql_struct, h]; rfl
theorem evGuard : Tryz.prog.eqGuardType Tryz.prog.depth 61 = false := by kernel_rfl
end Go.Proofs.YtajnfkmkombajaaGreatDoor
