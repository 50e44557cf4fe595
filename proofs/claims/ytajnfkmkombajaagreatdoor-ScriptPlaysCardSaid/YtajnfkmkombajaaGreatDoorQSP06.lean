/-
  A pool of package pool, held in a block and a map.
  Contracts of package pool: Join, Take, Leave, Add, Slash.
-/
import Derived.Test.YtajnfkmkombajaaGreatDoorQSP01
import Derived.Test.YtajnfkmkombajaaGreatDoorQSP03
import Derived.Maps.OwnSet
import Derived.Deep.QuietTactic
import Derived.BigQuiet
import Derived.Test.YtajnfkmkombajaaGreatDoorQSP05
set_option linter.unusedVariables false
set_option linter.unusedSimpArgs false
set_option linter.unusedVariables false
namespace Go.Proofs.YtajnfkmkombajaaGreatDoor
open Go.RowKit Go.Maps
theorem keyI : Keyed Tryz.prog 3 := int_keyed Tryz.underlying3
theorem zeroI (w : World) : (zeroValue 3).run Tryz.prog w = .ok (.int .i64 0) w := by kernel_rfl
structure PoolAt (b mb n : Nat) (q : QS) (w : World) : Prop where
 ok : q.Ok
 row : RowAt b 193 [.int .i64 q.total, .int .i64 q.all, .map (some mb)] w
 own : ∃ D : DataW Unit, w.ownsMap Tryz.prog 3 (plainElem Tryz.prog 3) mb n D ∧ ∀ o : Int, D.atKey (.int .i64 o) (.lit (.int .i64 0)) = .lit (.int .i64 (q.at o))
 ne : b ≠ mb
theorem PoolAt.c0 {b mb n : Nat} {q : QS} {w : World} (h : PoolAt b mb n q w) : w.cell? ⟨b, 0, none⟩ = some (.int .i64 q.total) := by rw [h.row.cell]; rfl
theorem PoolAt.c1 {b mb n : Nat} {q : QS} {w : World} (h : PoolAt b mb n q w) : w.cell? ⟨b, 1, none⟩ = some (.int .i64 q.all) := by rw [h.row.cell]; rfl
theorem PoolAt.c2 {b mb n : Nat} {q : QS} {w : World} (h : PoolAt b mb n q w) : w.cell? ⟨b, 2, none⟩ = some (.map (some mb)) := by rw [h.row.cell]; rfl
theorem PoolAt.drewN {b mb n : Nat} {q : QS} {w : World} (h : PoolAt b mb n q w) (k : Nat) : PoolAt b mb n q (w.drewN k) := ⟨h.ok, h.row.drewN k, h.own, h.ne⟩
theorem pool_Total (b mb n : Nat) (q : QS) (w : World) (h : PoolAt b mb n q w) : Calls Tryz.prog 140 #[.pointer (some ⟨b, 0, none⟩)] w fun e w' => e = .returned (.int .i64 q.total) ∧ w = w' := by
 have c0 := h.c0
 clear h
 go_enter Tryz.func140, Tryz.ntmps140
 go_wp2
 go_ret
 exact ⟨rfl, rfl⟩
theorem pool_New (w : World) : Calls Tryz.prog 83 #[] w fun e w' => ∃ mb, e = .returned (.pointer (some ⟨w.heap.size + 1, 0, none⟩)) ∧ Below w.heap.size w w' ∧ w.heap.size ≤ mb ∧ PoolAt (w.heap.size + 1) mb 0 QS.new w' := by
 have hmm := @run_makeMap Tryz.prog
 go_enter Tryz.func83, Tryz.ntmps83
 go_wp2
 go_ret
 refine ⟨w.heap.size, by simp, ((Below.refl _ _).alloc (Nat.le_refl _) _).alloc (by simp) _, Nat.le_refl _, QS.new_ok, ?_, ⟨.map [], (World.ownsMap_made w _ _ _).alloc _, fun o => ?_⟩, by omega⟩
 · have := RowAt.new (w.alloc (.map #[] 0)) 193 [.int .i64 0, .int .i64 0, .map (some w.heap.size)]
   have hs : (w.alloc (.map #[] 0)).heap.size = w.heap.size + 1 := by simp
   rw [hs] at this
   exact this
 · rw [atKey_of_not_has (by rfl)]
   unfold QS.at QS.new
   split
   · next ho => obtain ⟨h0, h6⟩ := ownB_iff.1 ho; obtain ⟨k, rfl⟩ := Int.eq_ofNat_of_zero_le h0; match k, h6 with | 0, _ => rfl | 1, _ => rfl | 2, _ => rfl | 3, _ => rfl | 4, _ => rfl | 5, _ => rfl
   · rfl
theorem pool_look (A : Nat → Addr) (S : List Nat) (o n : Int) (w : World) (hE : Errs A S w) (h2 : 2 ∈ S) :
   Calls Tryz.prog 160 #[.int .i64 o, .int .i64 n] w fun e w' => e = .returned (ev A (plookC o n)) ∧ w = w' := by
 have g2 : w.cell? ⟨0, 0, none⟩ = some (.iface 288 (.pointer (some (A 2)))) := hE.cell 2 h2
 clear hE
 by_cases hc : plookC o n = 0
 · obtain ⟨ho, h3, h4⟩ := plookC_zero.1 hc
   obtain ⟨h1, h2'⟩ := ownB_iff.1 ho
   have H := Lib.hid (show ev A (plookC o n) = .nilIface by rw [hc]; rfl)
   clear hc ho
   go_enter Tryz.func160, Tryz.ntmps160
   go_wp2
   go_ret
   exact ⟨by rw [H.out]; rfl, rfl⟩
 · have h22 : plookC o n = 2 := by unfold plookC at hc ⊢; split at hc <;> simp_all
   have H := Lib.hid (show ev A (plookC o n) = .iface 288 (.pointer (some (A 2))) by rw [h22]; rfl)
   have hcases : o < 0 ∨ (0 ≤ o ∧ 6 ≤ o) ∨ (0 ≤ o ∧ o < 6 ∧ n < 1) ∨ (0 ≤ o ∧ o < 6 ∧ 1 ≤ n ∧ 1125899906842624 < n) := by
     have : ¬ (ownB o = true ∧ 1 ≤ n ∧ n ≤ 1125899906842624) := fun h => hc (plookC_zero.2 h)
     rw [ownB_iff] at this; omega
   clear hc h22
   rcases hcases with h1 | ⟨h1, h2'⟩ | ⟨h1, h2', h3⟩ | ⟨h1, h2', h3, h4⟩
   all_goals
     go_enter Tryz.func160, Tryz.ntmps160
     go_wp2
     go_ret
     exact ⟨by rw [H.out]; rfl, rfl⟩
def PoolP (b mb n : Nat) (q : QS) (w w' : World) : Prop := Keep (fun k => k = b ∨ k = mb) w w' ∧ PoolAt b mb n q w'
theorem PoolP.refl {b mb n : Nat} {q : QS} {w : World} (h : PoolAt b mb n q w) : PoolP b mb n q w w := ⟨Keep.refl _ _, h⟩
theorem PoolP.trans {b mb n m : Nat} {p q : QS} {w w1 w2 : World} (h : PoolP b mb n p w w1) (k : PoolP b mb m q w1 w2) : PoolP b mb m q w w2 := ⟨h.1.trans k.1, k.2⟩
theorem PoolAt.mono {b mb n m : Nat} {q : QS} {w : World} (h : PoolAt b mb n q w) (hm : n ≤ m) : PoolAt b mb m q w := by
 obtain ⟨D, h1, h2⟩ := h.own
 exact ⟨h.ok, h.row, ⟨D, h1.mono hm, h2⟩, h.ne⟩
theorem PoolAt.lt {b mb n : Nat} {q : QS} {w : World} (h : PoolAt b mb n q w) : b < w.heap.size ∧ mb < w.heap.size := by
 obtain ⟨D, h1, h2⟩ := h.own
 exact ⟨h.row.lt, h1.lt⟩
theorem PoolAt.keep {F : Nat → Prop} {b mb n : Nat} {q : QS} {w w' : World} (h : PoolAt b mb n q w) (k : Keep F w w') (hb : ¬ F b) (hm : ¬ F mb) : PoolAt b mb n q w' := by
 obtain ⟨D, h1, h2⟩ := h.own
 refine ⟨h.ok, h.row.keep k hb, ⟨D, ?_, h2⟩, h.ne⟩
 obtain ⟨es, clock, e1, e2⟩ := h1
 exact ⟨es, clock, k.heap e1 hm, e2⟩
theorem PoolAt.below {B b mb n : Nat} {q : QS} {w w' : World} (h : PoolAt b mb n q w) (k : Below B w w') (hb : b < B) (hm : mb < B) : PoolAt b mb n q w' := by
 obtain ⟨D, h1, h2⟩ := h.own
 refine ⟨h.ok, h.row.below k hb, ⟨D, ?_, h2⟩, h.ne⟩
 obtain ⟨es, clock, e1, e2⟩ := h1
 exact ⟨es, clock, below_heap k e1 hm, e2⟩
theorem pool_Value (A : Nat → Addr) (S : List Nat) (b mb n : Nat) (q : QS) (o : Int) (w : World) (hE : Errs A S w) (h2 : 2 ∈ S) (h : PoolAt b mb n q w) (ho : (Lit.int .i64 o).wf = true) :
   Calls Tryz.prog 154 #[.pointer (some ⟨b, 0, none⟩), .int .i64 o] w fun e w' => e = .returned (.int .i64 (q.value o)) ∧ Dr w w' := by
 have c0 := h.c0
 have c1 := h.c1
 have c2 := h.c2
 have HE := Lib.hid hE; clear hE
 by_cases h0 : q.all = 0
 · have HV := Lib.hid (QS.Ok.value_nil h0 o)
   rw [h0] at c1
   clear h h0
   go_enter Tryz.func154, Tryz.ntmps154
   go_wp2
   go_ret
   exact ⟨by rw [HV.out]; rfl, Dr.refl _⟩
 · have hv : q.value o = overN (q.at o) q.total q.all := by unfold QS.value; rw [if_neg h0]
   have HV := Lib.hid hv; clear hv
   have hz : (q.all == 0) = false := by simp [h0]
   obtain ⟨D, hown, hat⟩ := h.own
   have hlk : ∀ k : Nat, (Instr.lookup 191 (.map (some mb)) (.int .i64 o) false).run Tryz.prog (w.drewN k) = .ok (.int .i64 (q.at o)) (w.drewN k) := fun k => by
     obtain ⟨c, hrun, hc, _⟩ := (show (w.drewN k).ownsMap Tryz.prog 3 (plainElem Tryz.prog 3) mb n D from hown).lookup_int keyI Tryz.underlying191 Tryz.underlying3 (zeroI _) (keyOf_int_mk Tryz.underlying3 ho)
     have hco : c = q.at o := by have := hc.symm.trans (hat o); simpa using this
     rw [← hco]; exact hrun
   have hlk0 := hlk 0
   clear h h0 hown hat
   go_enter Tryz.func154, Tryz.ntmps154
   go_wp2_with fail
   go_quiet ((go_at_call 161; exact Calls.quiet_of ((part_Down A S _ _ _ _ (HE.out.drewN _) h2).mono fun _ _ ⟨a, k, b⟩ => ⟨a, k, b.symm⟩)))
   go_wp2
   go_ret
   exact ⟨by rw [HV.out]; rfl, nq, rfl⟩
theorem turned_cell {w w' : World} {mb b i : Nat} (h : w.mapTurned w' mb) (hb : b < w.heap.size) (hne : b ≠ mb) : w'.cell? ⟨b, i, none⟩ = w.cell? ⟨b, i, none⟩ :=
 World.cell?_of_block (w := w) (h.grown.block b hb (fun e => hne (by simpa using e)))
theorem pool_changed {b mb n : Nat} {q : QS} {o s m : Int} {w w2 : World} {D' : DataW Unit} (h : PoolAt b mb n q w) (ho : ownB o = true) (hok : (q.change o s m).Ok)
   (hg : ((w.setCell ⟨b, 0, none⟩ (.int .i64 (q.total + m))).setCell ⟨b, 1, none⟩ (.int .i64 (q.all + s))).mapTurned w2 mb) (hown : w2.ownsMap Tryz.prog 3 (plainElem Tryz.prog 3) mb (n + 1) D')
   (hat : ∀ k : Int, D'.atKey (.int .i64 k) (.lit (.int .i64 0)) = .lit (.int .i64 (if k = o then q.at o + s else q.at k))) : PoolP b mb (n + 1) (q.change o s m) w w2 := by
 have hr := (h.row.set 0 (.int .i64 (q.total + m))).set 1 (.int .i64 (q.all + s))
 have hk : Keep (fun k => k = b ∨ k = mb) w ((w.setCell ⟨b, 0, none⟩ (.int .i64 (q.total + m))).setCell ⟨b, 1, none⟩ (.int .i64 (q.all + s))) :=
   ((Keep.refl _ _).setCell (p := ⟨b, 0, none⟩) (.inl (.inl rfl)) _).setCell (p := ⟨b, 1, none⟩) (.inl (.inl rfl)) _
 refine ⟨hk.grown hg.grown (fun k hk => .inl (.inr (by simpa using hk.symm))), hok, ?_, ⟨D', hown, fun k => by rw [hat k, QS.at_change h.ok ho]⟩, h.ne⟩
 exact (hg.grown.block b hr.lt (fun e => h.ne (by simpa using e))).trans hr
set_option maxRecDepth 8000 in
set_option maxHeartbeats 1000000 in
theorem pool_change (b mb n : Nat) (q : QS) (o s m : Int) (w : World) (h : PoolAt b mb n q w) (ho : ownB o = true) (hok : (q.change o s m).Ok) (hs : -1125899906842624 ≤ s ∧ s ≤ 1125899906842624) (hm : -1125899906842624 ≤ m ∧ m ≤ 1125899906842624) (hn : n < maxLen) :
   Calls Tryz.prog 162 #[.pointer (some ⟨b, 0, none⟩), .int .i64 o, .int .i64 s, .int .i64 m] w fun e w' => e = .returned (.tuple #[]) ∧ PoolP b mb (n + 1) (q.change o s m) w w' := by
 have c0 := h.c0
 have c1 := h.c1
 have c2 := h.c2
 have f0 := h.row.frozen 0
 have f1 := h.row.frozen 1
 have hlt := h.lt.1
 have hnemb := h.ne
 obtain ⟨D, hown, hat⟩ := h.own
 obtain ⟨o0, o1⟩ := ownB_iff.1 ho
 have hkey : keyOf Tryz.prog 3 (.int .i64 o) = some (.int .i64 o) := keyOf_int_mk Tryz.underlying3 (WalkArith.wf_i64 (by omega))
 have hisk : WideAt.IsKeyLit (.int .i64 o) := keyI.key hkey
 have hisM := hown.isMap
 have b1 := h.ok.at_bd o
 have b2 := h.ok.a1
 have b3 := h.ok.t0
 have b4 := h.ok.t1
 have hato := hat o
 have HC := Lib.hid (fun (w2 : World) (D' : DataW Unit) => @pool_changed b mb n q o s m w w2 D' h ho hok)
 have HAT := Lib.hid hat
 have HO := Lib.hid (fun u v => (hown.setCell (a := ⟨b, 0, none⟩) (by exact fun e => hnemb e.symm) u).setCell (a := ⟨b, 1, none⟩) (by exact fun e => hnemb e.symm) v)
 clear h hok ho hat hown
 generalize hT : q.total = T at *
 generalize hA : q.all = U at *
 generalize hX : q.at o = X at *
 have hwf : (Lit.int .i64 (X + s)).wf = true := WalkArith.wf_i64 (by omega)
 clear hT hA
 have ho1 := HO.out (.int .i64 (T + m)) (.int .i64 (U + s))
 obtain ⟨c, l1, hc, _⟩ := ho1.lookup_int keyI Tryz.underlying191 Tryz.underlying3 (zeroI _) hkey
 obtain rfl : X = c := by have := hato.symm.trans hc; simpa using this
 obtain ⟨w2, s2, hown2, hturn2⟩ := ho1.store keyI Tryz.underlying191 hn hkey (plainElem_int Tryz.underlying3 hwf)
 have c3 : w2.cell? ⟨b, 2, none⟩ = some (.map (some mb)) := (turned_cell (b := b) (i := 2) hturn2 (by simpa [World.setCell] using hlt) hnemb).trans (by simpa [go_sem] using c2)
 obtain ⟨c', l2, hc', _⟩ := hown2.lookup_int keyI Tryz.underlying191 Tryz.underlying3 (zeroI _) hkey
 obtain rfl : X + s = c' := by have := (Maps.atKey_put_same hisM hisk _ _).symm.trans hc'; simpa using this
 have hlt2 : b < w2.heap.size := Nat.lt_of_lt_of_le (by simpa [World.setCell] using hlt) hturn2.grown.size
 have HT2 := Lib.hid hturn2; have HW2 := Lib.hid hown2
 clear ho1 hc hc' hturn2 hown2 hwf
 by_cases hz : X + s = 0
 · have hz' : (X + s == 0) = true := by simp [hz]
   have HZ := Lib.hid hz; clear hz
   obtain ⟨w3, d3, hown3, hturn3⟩ := HW2.out.drop keyI Tryz.underlying191 hkey 0
   have HT3 := Lib.hid hturn3; have HW3 := Lib.hid hown3
   clear hturn3 hown3
   go_enter Tryz.func162, Tryz.ntmps162
   go_wp2
   go_end0
   refine ⟨rfl, HC.out _ _ (HT2.out.trans HT3.out) HW3.out fun k => ?_⟩
   by_cases hk : k = o
   · subst hk; rw [if_pos rfl, Maps.atKey_del_same, HZ.out]
   · rw [if_neg hk, Maps.atKey_del_other (by simpa using hk), Maps.atKey_put_other (by simpa using hk)]; exact HAT.out k
 · have hz' : (X + s == 0) = false := by simp [hz]
   have HZ := Lib.hid hz; clear hz
   go_enter Tryz.func162, Tryz.ntmps162
   go_wp2
   go_end0
   refine ⟨rfl, HC.out _ _ HT2.out HW2.out fun k => ?_⟩
   by_cases hk : k = o
   · subst hk; rw [if_pos rfl, Maps.atKey_put_same hisM hisk]
   · rw [if_neg hk, Maps.atKey_put_other (by simpa using hk)]; exact HAT.out k
end Go.Proofs.YtajnfkmkombajaaGreatDoor
namespace Go.Proofs.YtajnfkmkombajaaGreatDoor
open Go.RowKit Go.Maps
theorem PoolAt.same {b mb n : Nat} {q : QS} {w : World} (h : PoolAt b mb n q w) (k : Nat) : PoolP b mb (n + 1) q w (w.drewN k) := ⟨(Keep.refl _ _).drewN k, (h.mono (Nat.le_succ n)).drewN k⟩
theorem PoolAt.sameN {b mb n : Nat} {q : QS} {w : World} (h : PoolAt b mb n q w) (k : Nat) : PoolP b mb n q w (w.drewN k) := ⟨(Keep.refl _ _).drewN k, h.drewN k⟩
theorem PoolAt.same0 {b mb n : Nat} {q : QS} {w : World} (h : PoolAt b mb n q w) : PoolP b mb (n + 1) q w w := ⟨Keep.refl _ _, h.mono (Nat.le_succ n)⟩
theorem PoolP.from {b mb n k : Nat} {q : QS} {w w' : World} (h : PoolP b mb n q (w.drewN k) w') : PoolP b mb n q w w' := ⟨⟨h.1.os, h.1.tape, h.1.output, h.1.size, h.1.block⟩, h.2⟩
theorem joinOp_of {q : QS} {o n s : Int} (hl : plookC o n = 0) (hg : ¬ (0 < q.all ∧ q.total = 0)) (hc : q.joinC n = 0) (hs : q.joinS n = s) :
   q.joinOp o n = if ¬ (q.total + n ≤ 1125899906842624 ∧ q.all + s ≤ 1125899906842624) then (2, q) else if s = 0 then (7, q) else (0, q.change o s n) := by
 unfold QS.joinOp; rw [if_neg (by rw [hl]; simp), if_neg hg, if_neg (by rw [hc]; simp), hs]
theorem join_ways {q : QS} (h : q.Ok) {o n s : Int} (hn : 1 ≤ n) (hs : 0 ≤ s) (e : q.joinOp o n = if ¬ (q.total + n ≤ 1125899906842624 ∧ q.all + s ≤ 1125899906842624) then (2, q) else if s = 0 then (7, q) else (0, q.change o s n)) :
   (amtB (q.total + n) = false ∧ q.joinOp o n = (2, q)) ∨ (amtB (q.total + n) = true ∧ amtB (q.all + s) = false ∧ q.joinOp o n = (2, q)) ∨
   (amtB (q.total + n) = true ∧ amtB (q.all + s) = true ∧ (s == 0) = true ∧ q.joinOp o n = (7, q)) ∨ (amtB (q.total + n) = true ∧ amtB (q.all + s) = true ∧ (s == 0) = false ∧ q.joinOp o n = (0, q.change o s n)) := by
 have ht := h.t0
 have ha := h.all0
 by_cases h1 : amtB (q.total + n) = true
 · by_cases h2 : amtB (q.all + s) = true
   · rw [if_neg (by rw [amtB_iff] at h1 h2; omega)] at e
     by_cases h3 : s = 0
     · rw [if_pos h3] at e; exact .inr (.inr (.inl ⟨h1, h2, by simp [h3], e⟩))
     · rw [if_neg h3] at e; exact .inr (.inr (.inr ⟨h1, h2, by simp [h3], e⟩))
   · rw [if_pos (by rw [amtB_iff] at h1 h2; omega)] at e
     exact .inr (.inl ⟨h1, by simpa using h2, e⟩)
 · rw [if_pos (by rw [amtB_iff] at h1; omega)] at e
   exact .inl ⟨by simpa using h1, e⟩
set_option maxRecDepth 8000 in
set_option maxHeartbeats 1000000 in
theorem pool_Join (A : Nat → Addr) (S : List Nat) (b mb m : Nat) (q : QS) (o n : Int) (w : World) (hE : Errs A S w) (h2 : 2 ∈ S) (h7 : 7 ∈ S) (h8 : 8 ∈ S) (h : PoolAt b mb m q w) (hm : m < maxLen) :
   Calls Tryz.prog 139 #[.pointer (some ⟨b, 0, none⟩), .int .i64 o, .int .i64 n] w fun e w' => e = .returned (ev A (q.joinOp o n).1) ∧ PoolP b mb (m + 1) (q.joinOp o n).2 w w' := by
 have g2 : w.cell? ⟨0, 0, none⟩ = some (.iface 288 (.pointer (some (A 2)))) := hE.cell 2 h2
 have g7 : w.cell? ⟨7, 0, none⟩ = some (.iface 288 (.pointer (some (A 7)))) := hE.cell 7 h7
 have g8 : w.cell? ⟨6, 0, none⟩ = some (.iface 288 (.pointer (some (A 8)))) := hE.cell 8 h8
 have c0 := h.c0
 have c1 := h.c1
 have HE := Lib.hid hE; clear hE
 have HP := Lib.hid h
 have t0 := h.ok.t0
 have t1 := h.ok.t1
 have a0 := h.ok.all0
 have a1 := h.ok.a1
 by_cases hl : plookC o n = 0
 · obtain ⟨ho, hn1, hn2⟩ := plookC_zero.1 hl
   have el : ev A (plookC o n) = .nilIface := by rw [hl]; rfl
   have HOK := Lib.hid (QS.joinOp_ok h.ok o n)
   by_cases h0 : 0 < q.all
   · by_cases hT : q.total = 0
     · have E1 := Lib.hid (show q.joinOp o n = (8, q) by unfold QS.joinOp; rw [if_neg (by rw [hl]; simp), if_pos ⟨h0, hT⟩])
       rw [hT] at c0
       clear h hT t0 t1 hl
       generalize q.all = U at *
       go_enter Tryz.func139, Tryz.ntmps139
       go_wp2_with (go_at_call 160; refine (pool_look A S _ _ _ HE.out h2).mono ?_; rintro e w' ⟨rfl, rfl⟩; rw [el])
       go_ret
       exact ⟨by rw [E1.out]; rfl, by rw [E1.out]; exact HP.out.same0⟩
     · have hTz : (q.total == 0) = false := by simp [hT]
       by_cases hO : overOk n q.all q.total
       · obtain ⟨y1, y2, _⟩ := over_yes hO
         have hjc : q.joinC n = 0 := by unfold QS.joinC; rw [if_pos h0]; exact y1
         have hjs : q.joinS n = overN n q.all q.total := by unfold QS.joinS; rw [if_pos h0]
         have eo : ev A (overC n q.all q.total) = .nilIface := by rw [y1]; rfl
         have s0 : 0 ≤ overN n q.all q.total := by rw [y2]; exact Int.ediv_nonneg (Int.mul_nonneg (by omega) a0) t0
         have s1 : overN n q.all q.total ≤ 1125899906842624 := by rw [y2]; exact hO.2.2.2
         have hw := join_ways h.ok hn1 s0 (joinOp_of hl (by omega) hjc hjs)
         have HD : Hid (∀ wx, Errs A S wx → Calls Tryz.prog 161 #[.int .i64 n, .int .i64 q.all, .int .i64 q.total] wx fun e w' => e = .returned (.tuple #[.int .i64 (overN n q.all q.total), .nilIface]) ∧ Dr wx w') := (fun wx hE => (part_Down A S n q.all q.total wx hE h2).mono fun e w' ⟨he, hd⟩ => ⟨by rw [he, eo], hd⟩ : ∀ wx, Errs A S wx → Calls Tryz.prog 161 #[.int .i64 n, .int .i64 q.all, .int .i64 q.total] wx fun e w' => e = .returned (.tuple #[.int .i64 (overN n q.all q.total), .nilIface]) ∧ Dr wx w')
         clear y1 y2 hjc hjs hO hl h eo
         generalize overN n q.all q.total = s at *
         rcases hw with ⟨w1, hj⟩ | ⟨w1, w2, hj⟩ | ⟨w1, w2, w3, hj⟩ | ⟨w1, w2, w3, hj⟩
         iterate 3
           · have E1 := Lib.hid hj; clear hj HOK
             go_enter Tryz.func139, Tryz.ntmps139
             go_wp2_with (go_at_call 160; refine (pool_look A S _ _ _ HE.out h2).mono ?_; rintro e w' ⟨rfl, rfl⟩; rw [el])
             go_quiet ((go_at_call 161; exact Calls.quiet_of ((HD.out _ (HE.out.drewN _)).mono fun _ _ ⟨a, k, b⟩ => ⟨a, k, b.symm⟩)))
             go_wp2_with (go_at_call 137; refine (part_Amount _ _).mono ?_; rintro e w' ⟨rfl, rfl⟩)
             go_ret
             exact ⟨by rw [E1.out]; rfl, by rw [E1.out]; exact HP.out.same _⟩
         · have E1 := Lib.hid hj
           have hok := HOK.out; rw [hj] at hok
           have HC := Lib.hid (fun wx hp => pool_change b mb m q o s n wx hp ho hok (by omega) (by omega) hm)
           clear hj HOK hok
           go_enter Tryz.func139, Tryz.ntmps139
           go_wp2_with (go_at_call 160; refine (pool_look A S _ _ _ HE.out h2).mono ?_; rintro e w' ⟨rfl, rfl⟩; rw [el])
           go_quiet ((go_at_call 161; exact Calls.quiet_of ((HD.out _ (HE.out.drewN _)).mono fun _ _ ⟨a, k, b⟩ => ⟨a, k, b.symm⟩)))
           go_wp2_with (first
             | (go_at_call 137; refine (part_Amount _ _).mono ?_; rintro e w' ⟨rfl, rfl⟩)
             | (go_at_call 162; refine (HC.out _ (HP.out.drewN _)).mono ?_; rintro e w' ⟨rfl, hk⟩))
           go_ret
           exact ⟨by rw [E1.out]; rfl, by rw [E1.out]; exact hk.from⟩
       · obtain ⟨y1, y2, _⟩ := over_no hO
         have E1 := Lib.hid (show q.joinOp o n = (2, q) by unfold QS.joinOp; rw [if_neg (by rw [hl]; simp), if_neg (by omega), if_pos (by unfold QS.joinC; rw [if_pos h0, y1]; simp)])
         have eo : ev A (overC n q.all q.total) = .iface 288 (.pointer (some (A 2))) := by rw [y1]; rfl
         have HD : Hid (∀ wx, Errs A S wx → Calls Tryz.prog 161 #[.int .i64 n, .int .i64 q.all, .int .i64 q.total] wx fun e w' => e = .returned (.tuple #[.int .i64 0, .iface 288 (.pointer (some (A 2)))]) ∧ Dr wx w') := (fun wx hE => (part_Down A S n q.all q.total wx hE h2).mono fun e w' ⟨he, hd⟩ => ⟨by rw [he, eo, y2], hd⟩ : ∀ wx, Errs A S wx → Calls Tryz.prog 161 #[.int .i64 n, .int .i64 q.all, .int .i64 q.total] wx fun e w' => e = .returned (.tuple #[.int .i64 0, .iface 288 (.pointer (some (A 2)))]) ∧ Dr wx w')
         clear y1 y2 hO hl h eo
         go_enter Tryz.func139, Tryz.ntmps139
         go_wp2_with (go_at_call 160; refine (pool_look A S _ _ _ HE.out h2).mono ?_; rintro e w' ⟨rfl, rfl⟩; rw [el])
         go_quiet ((go_at_call 161; exact Calls.quiet_of ((HD.out _ (HE.out.drewN _)).mono fun _ _ ⟨a, k, b⟩ => ⟨a, k, b.symm⟩)))
         go_wp2
         go_ret
         exact ⟨by rw [E1.out]; rfl, by rw [E1.out]; exact HP.out.same _⟩
   · have hU : q.all = 0 := by omega
     have hjc : q.joinC n = 0 := by unfold QS.joinC; rw [if_neg h0]
     have hjs : q.joinS n = n := by unfold QS.joinS; rw [if_neg h0]
     have hw := join_ways h.ok hn1 (by omega) (joinOp_of hl (by omega) hjc hjs)
     clear hl h hjc hjs h0
     rw [hU] at c1
     rw [hU, Int.zero_add] at hw
     rcases hw with ⟨w1, hj⟩ | ⟨w1, w2, hj⟩ | ⟨w1, w2, w3, hj⟩ | ⟨w1, w2, w3, hj⟩
     iterate 3
       · have E1 := Lib.hid hj; clear hj HOK
         go_enter Tryz.func139, Tryz.ntmps139
         go_wp2_with (first | (go_at_call 160; refine (pool_look A S _ _ _ HE.out h2).mono ?_; rintro e w' ⟨rfl, rfl⟩; rw [el]) | (go_at_call 137; refine (part_Amount _ _).mono ?_; rintro e w' ⟨rfl, rfl⟩))
         go_ret
         exact ⟨by rw [E1.out]; rfl, by rw [E1.out]; exact HP.out.same0⟩
     · have E1 := Lib.hid hj
       have hok := HOK.out; rw [hj] at hok
       have HC := Lib.hid (fun wx hp => pool_change b mb m q o n n wx hp ho hok (by omega) (by omega) hm)
       clear hj HOK hok
       go_enter Tryz.func139, Tryz.ntmps139
       go_wp2_with (first
         | (go_at_call 160; refine (pool_look A S _ _ _ HE.out h2).mono ?_; rintro e w' ⟨rfl, rfl⟩; rw [el])
         | (go_at_call 137; refine (part_Amount _ _).mono ?_; rintro e w' ⟨rfl, rfl⟩)
         | (go_at_call 162; refine (HC.out _ HP.out).mono ?_; rintro e w' ⟨rfl, hk⟩))
       go_ret
       exact ⟨by rw [E1.out]; rfl, by rw [E1.out]; exact hk⟩
 · have hl2 : plookC o n = 2 := by unfold plookC at hl ⊢; split at hl <;> simp_all
   have E1 := Lib.hid (show q.joinOp o n = (2, q) by unfold QS.joinOp; rw [if_pos hl])
   have el : ev A (plookC o n) = .iface 288 (.pointer (some (A 2))) := by rw [hl2]; rfl
   clear hl hl2 h
   go_enter Tryz.func139, Tryz.ntmps139
   go_wp2_with (go_at_call 160; refine (pool_look A S _ _ _ HE.out h2).mono ?_; rintro e w' ⟨rfl, rfl⟩; rw [el])
   go_ret
   exact ⟨by rw [E1.out]; rfl, by rw [E1.out]; exact HP.out.same0⟩
set_option maxRecDepth 8000 in
set_option maxHeartbeats 1000000 in
theorem pool_Take (A : Nat → Addr) (S : List Nat) (b mb m : Nat) (q : QS) (o n : Int) (w : World) (hE : Errs A S w) (h2 : 2 ∈ S) (h6 : 6 ∈ S) (h : PoolAt b mb m q w) (hm : m < maxLen) :
   Calls Tryz.prog 169 #[.pointer (some ⟨b, 0, none⟩), .int .i64 o, .int .i64 n] w fun e w' => e = .returned (ev A (q.takeOp o n).1) ∧ PoolP b mb (m + 1) (q.takeOp o n).2 w w' := by
 have g6 : w.cell? ⟨4, 0, none⟩ = some (.iface 288 (.pointer (some (A 6)))) := hE.cell 6 h6
 have c0 := h.c0
 have c1 := h.c1
 have HE := Lib.hid hE; clear hE
 have HP := Lib.hid h
 have t0 := h.ok.t0
 have t1 := h.ok.t1
 have a0 := h.ok.all0
 have a1 := h.ok.a1
 by_cases hl : plookC o n = 0
 · obtain ⟨ho, hn1, hn2⟩ := plookC_zero.1 hl
   obtain ⟨o0, o1⟩ := ownB_iff.1 ho
   have hwf : (Lit.int .i64 o).wf = true := WalkArith.wf_i64 (by omega)
   have el : ev A (plookC o n) = .nilIface := by rw [hl]; rfl
   have HOK := Lib.hid (QS.takeOp_ok h.ok o n)
   by_cases hv : q.value o < n
   · have E1 := Lib.hid (show q.takeOp o n = (6, q) by unfold QS.takeOp; rw [if_neg (by rw [hl]; simp), if_pos hv])
     have hd : decide (q.value o < n) = true := by simp [hv]
     clear h hl hv HOK
     go_enter Tryz.func169, Tryz.ntmps169
     go_wp2_with (first | (go_at_call 160; refine (pool_look A S _ _ _ HE.out h2).mono ?_; rintro e w' ⟨rfl, rfl⟩; rw [el]) | (go_at_call 154; refine (pool_Value A S b mb m q o _ HE.out h2 HP.out hwf).mono ?_; rintro e w1 ⟨rfl, k, hk⟩; have c0' : w1.cell? ⟨b, 0, none⟩ = some (.int .i64 q.total) := (by rw [← hk]; exact c0); have c1' : w1.cell? ⟨b, 1, none⟩ = some (.int .i64 q.all) := (by rw [← hk]; exact c1); have g6' : w1.cell? ⟨4, 0, none⟩ = some (.iface 288 (.pointer (some (A 6)))) := (by rw [← hk]; exact g6); have HE1 : Hid (Errs A S w1) := (by rw [← hk]; exact HE.out.drewN k : Errs A S w1); have HP1 : Hid (PoolAt b mb m q w1) := (by rw [← hk]; exact HP.out.drewN k : PoolAt b mb m q w1); have HK := Lib.hid hk; clear hk))
     go_ret
     exact ⟨by rw [E1.out]; rfl, by rw [E1.out, ← HK.out]; exact HP.out.same _⟩
   · have hd : decide (q.value o < n) = false := by simp; omega
     obtain ⟨u1, u2, u3, u4, u5, u6⟩ := h.ok.take_bd hn1 (by omega : n ≤ q.value o)
     have hat := h.ok.at_bd o
     have eo : ev A (upC n q.all q.total) = .nilIface := by rw [u1]; rfl
     have HD : Hid (∀ wx, Errs A S wx → Calls Tryz.prog 190 #[.int .i64 n, .int .i64 q.all, .int .i64 q.total] wx fun e w' => e = .returned (.tuple #[.int .i64 (upN n q.all q.total), .nilIface]) ∧ Dr wx w') := (fun wx hE => (part_Up A S n q.all q.total wx hE h2).mono fun e w' ⟨he, hd⟩ => ⟨by rw [he, eo], hd⟩ : ∀ wx, Errs A S wx → Calls Tryz.prog 190 #[.int .i64 n, .int .i64 q.all, .int .i64 q.total] wx fun e w' => e = .returned (.tuple #[.int .i64 (upN n q.all q.total), .nilIface]) ∧ Dr wx w')
     have hop : q.takeOp o n = if upN n q.all q.total = q.all ∧ n < q.total then (6, q) else (0, q.change o (-upN n q.all q.total) (-n)) := by unfold QS.takeOp; rw [if_neg (by rw [hl]; simp), if_neg hv]
     have hs0 : 0 ≤ upN n q.all q.total := by omega
     have hs1 : upN n q.all q.total ≤ 1125899906842624 := by omega
     clear u1 u2 u3 u4 u5 u6 eo hl h hv
     generalize upN n q.all q.total = s at *
     have hways : ((s == q.all) = true ∧ decide (n < q.total) = true ∧ q.takeOp o n = (6, q)) ∨ (((s == q.all) = false ∨ ((s == q.all) = true ∧ decide (n < q.total) = false)) ∧ q.takeOp o n = (0, q.change o (-s) (-n))) := by
       by_cases e1 : s = q.all
       · by_cases e2 : n < q.total
         · exact .inl ⟨by simp [e1], by simp [e2], by rw [hop, if_pos ⟨e1, e2⟩]⟩
         · exact .inr ⟨.inr ⟨by simp [e1], by simp; omega⟩, by rw [hop, if_neg (fun h => e2 h.2)]⟩
       · exact .inr ⟨.inl (by simp [e1]), by rw [hop, if_neg (fun h => e1 h.1)]⟩
     clear hop
     rcases hways with ⟨d1, d2, hj⟩ | ⟨d1 | ⟨d1, d2⟩, hj⟩
     · have E1 := Lib.hid hj
       clear hj HOK
       go_enter Tryz.func169, Tryz.ntmps169
       go_wp2_with (first | (go_at_call 160; refine (pool_look A S _ _ _ HE.out h2).mono ?_; rintro e w' ⟨rfl, rfl⟩; rw [el]) | (go_at_call 154; refine (pool_Value A S b mb m q o _ HE.out h2 HP.out hwf).mono ?_; rintro e w1 ⟨rfl, k, hk⟩; have c0' : w1.cell? ⟨b, 0, none⟩ = some (.int .i64 q.total) := (by rw [← hk]; exact c0); have c1' : w1.cell? ⟨b, 1, none⟩ = some (.int .i64 q.all) := (by rw [← hk]; exact c1); have g6' : w1.cell? ⟨4, 0, none⟩ = some (.iface 288 (.pointer (some (A 6)))) := (by rw [← hk]; exact g6); have HE1 : Hid (Errs A S w1) := (by rw [← hk]; exact HE.out.drewN k : Errs A S w1); have HP1 : Hid (PoolAt b mb m q w1) := (by rw [← hk]; exact HP.out.drewN k : PoolAt b mb m q w1); have HK := Lib.hid hk; clear hk))
       go_quiet ((go_at_call 190; exact Calls.quiet_of ((HD.out _ (HE1.out.drewN _)).mono fun _ _ ⟨a, k, b⟩ => ⟨a, k, b.symm⟩)))
       go_wp2
       go_ret
       exact ⟨by rw [E1.out]; rfl, by rw [E1.out]; have := HP1.out.same nq; rw [← HK.out] at this ⊢; exact this.from⟩
     all_goals
       have E1 := Lib.hid hj
       have hok := HOK.out; rw [hj] at hok
       have HC := Lib.hid (fun wx hp => pool_change b mb m q o (-s) (-n) wx hp ho hok (by omega) (by omega) hm)
       clear hj HOK hok
       go_enter Tryz.func169, Tryz.ntmps169
       go_wp2_with (first | (go_at_call 160; refine (pool_look A S _ _ _ HE.out h2).mono ?_; rintro e w' ⟨rfl, rfl⟩; rw [el]) | (go_at_call 154; refine (pool_Value A S b mb m q o _ HE.out h2 HP.out hwf).mono ?_; rintro e w1 ⟨rfl, k, hk⟩; have c0' : w1.cell? ⟨b, 0, none⟩ = some (.int .i64 q.total) := (by rw [← hk]; exact c0); have c1' : w1.cell? ⟨b, 1, none⟩ = some (.int .i64 q.all) := (by rw [← hk]; exact c1); have g6' : w1.cell? ⟨4, 0, none⟩ = some (.iface 288 (.pointer (some (A 6)))) := (by rw [← hk]; exact g6); have HE1 : Hid (Errs A S w1) := (by rw [← hk]; exact HE.out.drewN k : Errs A S w1); have HP1 : Hid (PoolAt b mb m q w1) := (by rw [← hk]; exact HP.out.drewN k : PoolAt b mb m q w1); have HK := Lib.hid hk; clear hk))
       go_quiet ((go_at_call 190; exact Calls.quiet_of ((HD.out _ (HE1.out.drewN _)).mono fun _ _ ⟨a, k, b⟩ => ⟨a, k, b.symm⟩)))
       go_wp2_with (go_at_call 162; refine (HC.out _ (HP1.out.drewN _)).mono ?_; rintro e w' ⟨rfl, hk⟩)
       go_ret
       exact ⟨by rw [E1.out]; rfl, by rw [E1.out]; rw [← HK.out] at hk; exact hk.from.from⟩
 · have hl2 : plookC o n = 2 := by unfold plookC at hl ⊢; split at hl <;> simp_all
   have E1 := Lib.hid (show q.takeOp o n = (2, q) by unfold QS.takeOp; rw [if_pos hl])
   have el : ev A (plookC o n) = .iface 288 (.pointer (some (A 2))) := by rw [hl2]; rfl
   clear hl hl2 h
   go_enter Tryz.func169, Tryz.ntmps169
   go_wp2_with (go_at_call 160; refine (pool_look A S _ _ _ HE.out h2).mono ?_; rintro e w' ⟨rfl, rfl⟩; rw [el])
   go_ret
   exact ⟨by rw [E1.out]; rfl, by rw [E1.out]; exact HP.out.same0⟩
set_option maxRecDepth 8000 in
set_option maxHeartbeats 1000000 in
theorem pool_Leave (A : Nat → Addr) (S : List Nat) (b mb m : Nat) (q : QS) (o : Int) (w : World) (hE : Errs A S w) (h2 : 2 ∈ S) (h4 : 4 ∈ S) (h : PoolAt b mb m q w) (hm : m < maxLen) :
   Calls Tryz.prog 170 #[.pointer (some ⟨b, 0, none⟩), .int .i64 o] w fun e w' => e = .returned (.tuple #[.int .i64 (q.leaveOp o).1, ev A (q.leaveOp o).2.1]) ∧ PoolP b mb (m + 1) (q.leaveOp o).2.2 w w' := by
 have g2 : w.cell? ⟨0, 0, none⟩ = some (.iface 288 (.pointer (some (A 2)))) := hE.cell 2 h2
 have g4 : w.cell? ⟨5, 0, none⟩ = some (.iface 288 (.pointer (some (A 4)))) := hE.cell 4 h4
 have c2 := h.c2
 have HE := Lib.hid hE; clear hE
 have HP := Lib.hid h
 have t1 := h.ok.t1
 have a0 := h.ok.all0
 have a1 := h.ok.a1
 by_cases ho : ownB o = true
 · obtain ⟨o0, o1⟩ := ownB_iff.1 ho
   have hwf : (Lit.int .i64 o).wf = true := WalkArith.wf_i64 (by omega)
   have hat := h.ok.at_bd o
   have hv := h.ok.value_bd o
   obtain ⟨D, hown, hD⟩ := h.own
   obtain ⟨c, hrun, hc, _⟩ := hown.lookup_int keyI Tryz.underlying191 Tryz.underlying3 (zeroI _) (keyOf_int_mk Tryz.underlying3 hwf)
   obtain rfl : q.at o = c := by have := (hD o).symm.trans hc; simpa using this
   clear hown hD hc
   by_cases hz : q.at o = 0
   · have E1 := Lib.hid (show q.leaveOp o = (0, 4, q) by unfold QS.leaveOp; rw [if_neg (by rw [ho]; simp), if_pos hz])
     rw [hz] at hrun
     clear h hz hat hv
     go_enter Tryz.func170, Tryz.ntmps170
     go_wp2
     go_quiet (fail)
     go_wp2
     go_ret2
     exact ⟨by rw [E1.out]; rfl, by rw [E1.out]; exact HP.out.same _⟩
   · have hz' : (q.at o == 0) = false := by simp [hz]
     have hj : q.leaveOp o = (q.value o, 0, q.change o (-q.at o) (-q.value o)) := by unfold QS.leaveOp; rw [if_neg (by rw [ho]; simp), if_neg hz]
     have E1 := Lib.hid hj
     have hok := QS.leaveOp_ok h.ok o
     rw [hj] at hok
     have HC := Lib.hid (fun wx hp => pool_change b mb m q o (-q.at o) (-q.value o) wx hp ho hok (by omega) (by omega) hm)
     clear hj hok hz h
     go_enter Tryz.func170, Tryz.ntmps170
     go_wp2_with (first
       | (go_at_call 154; refine (pool_Value A S b mb m q o _ HE.out h2 HP.out hwf).mono ?_; rintro e w' ⟨rfl, k, hk⟩; subst hk)
       | (go_at_call 162; refine (HC.out _ (HP.out.drewN _)).mono ?_; rintro e w' ⟨rfl, hk⟩))
     go_ret2
     exact ⟨by rw [E1.out]; rfl, by rw [E1.out]; exact hk.from⟩
 · have ho' : ownB o = false := by simpa using ho
   have E1 := Lib.hid (show q.leaveOp o = (0, 2, q) by unfold QS.leaveOp; rw [if_pos ho'])
   have hcases : o < 0 ∨ (0 ≤ o ∧ 6 ≤ o) := by rw [ownB_iff] at ho; omega
   clear h ho ho'
   rcases hcases with d1 | ⟨d1, d2⟩
   all_goals
     go_enter Tryz.func170, Tryz.ntmps170
     go_wp2
     go_quiet (fail)
     go_wp2
     go_ret2
     exact ⟨by rw [E1.out]; rfl, by rw [E1.out]; exact HP.out.same _⟩
theorem PoolAt.setTotal0 {b mb n : Nat} {q : QS} {w : World} (h : PoolAt b mb n q w) (t : Int) (hok : (QS.mk t q.all q.sh).Ok) : PoolP b mb n ⟨t, q.all, q.sh⟩ w (w.setCell ⟨b, 0, none⟩ (.int .i64 t)) := by
 obtain ⟨D, hown, hD⟩ := h.own
 refine ⟨(Keep.refl _ _).setCell (p := ⟨b, 0, none⟩) (.inl (.inl rfl)) _, hok, h.row.set 0 _, ⟨D, ?_, fun k => hD k⟩, h.ne⟩
 exact hown.setCell (a := ⟨b, 0, none⟩) (fun e => h.ne e.symm) _
theorem PoolAt.setTotal {b mb n : Nat} {q : QS} {w : World} (h : PoolAt b mb n q w) (t : Int) (hok : (QS.mk t q.all q.sh).Ok) : PoolP b mb (n + 1) ⟨t, q.all, q.sh⟩ w (w.setCell ⟨b, 0, none⟩ (.int .i64 t)) := by
 obtain ⟨D, hown, hD⟩ := h.own
 refine ⟨(Keep.refl _ _).setCell (p := ⟨b, 0, none⟩) (.inl (.inl rfl)) _, hok, h.row.set 0 _, ⟨D, ?_, fun k => hD k⟩, h.ne⟩
 exact (hown.mono (Nat.le_succ n)).setCell (a := ⟨b, 0, none⟩) (fun e => h.ne e.symm) _
set_option maxRecDepth 8000 in
theorem pool_Add (A : Nat → Addr) (S : List Nat) (b mb m : Nat) (q : QS) (n : Int) (w : World) (hE : Errs A S w) (h2 : 2 ∈ S) (h4 : 4 ∈ S) (h : PoolAt b mb m q w) :
   Calls Tryz.prog 226 #[.pointer (some ⟨b, 0, none⟩), .int .i64 n] w fun e w' => e = .returned (ev A (q.addOp n).1) ∧ PoolP b mb (m + 1) (q.addOp n).2 w w' := by
 have g2 : w.cell? ⟨0, 0, none⟩ = some (.iface 288 (.pointer (some (A 2)))) := hE.cell 2 h2
 have g4 : w.cell? ⟨5, 0, none⟩ = some (.iface 288 (.pointer (some (A 4)))) := hE.cell 4 h4
 have c0 := h.c0
 have c1 := h.c1
 have f0 := h.row.frozen 0
 clear hE
 have HP := Lib.hid h
 have t0 := h.ok.t0
 have t1 := h.ok.t1
 have HOK := Lib.hid (QS.addOp_ok h.ok n)
 by_cases hn : amtB n = true
 · obtain ⟨n0, n1⟩ := amtB_iff.1 hn
   by_cases hz : q.all = 0
   · have E1 := Lib.hid (show q.addOp n = (4, q) by unfold QS.addOp; rw [if_neg (by rw [hn]; simp), if_pos hz])
     rw [hz] at c1
     clear h HOK
     go_enter Tryz.func226, Tryz.ntmps226
     go_wp2_with (go_at_call 137; refine (part_Amount _ _).mono ?_; rintro e w' ⟨rfl, rfl⟩)
     go_ret
     exact ⟨by rw [E1.out]; rfl, by rw [E1.out]; exact HP.out.same0⟩
   · have hz' : (q.all == 0) = false := by simp [hz]
     by_cases ht : amtB (q.total + n) = true
     · have hj : q.addOp n = (0, ⟨q.total + n, q.all, q.sh⟩) := by unfold QS.addOp; rw [if_neg (by rw [hn]; simp), if_neg hz, if_neg (by rw [amtB_iff] at ht; omega)]
       have E1 := Lib.hid hj
       have hok := HOK.out; rw [hj] at hok
       have HS := Lib.hid (HP.out.setTotal _ hok)
       clear h HOK hok hj hz
       go_enter Tryz.func226, Tryz.ntmps226
       go_wp2_with (go_at_call 137; refine (part_Amount _ _).mono ?_; rintro e w' ⟨rfl, rfl⟩)
       go_ret
       exact ⟨by rw [E1.out]; rfl, by rw [E1.out]; exact HS.out⟩
     · have ht' : amtB (q.total + n) = false := by simpa using ht
       have E1 := Lib.hid (show q.addOp n = (2, q) by unfold QS.addOp; rw [if_neg (by rw [hn]; simp), if_neg hz, if_pos (by rw [amtB_iff] at ht; omega)])
       clear h HOK hz ht
       go_enter Tryz.func226, Tryz.ntmps226
       go_wp2_with (go_at_call 137; refine (part_Amount _ _).mono ?_; rintro e w' ⟨rfl, rfl⟩)
       go_ret
       exact ⟨by rw [E1.out]; rfl, by rw [E1.out]; exact HP.out.same0⟩
 · have hn' : amtB n = false := by simpa using hn
   have E1 := Lib.hid (show q.addOp n = (2, q) by unfold QS.addOp; rw [if_pos hn'])
   clear h HOK hn
   go_enter Tryz.func226, Tryz.ntmps226
   go_wp2_with (go_at_call 137; refine (part_Amount _ _).mono ?_; rintro e w' ⟨rfl, rfl⟩)
   go_ret
   exact ⟨by rw [E1.out]; rfl, by rw [E1.out]; exact HP.out.same0⟩
set_option maxRecDepth 8000 in
theorem pool_Slash0 (A : Nat → Addr) (S : List Nat) (b mb m : Nat) (q : QS) (n : Int) (w : World) (hE : Errs A S w) (h2 : 2 ∈ S) (h : PoolAt b mb m q w) :
   Calls Tryz.prog 228 #[.pointer (some ⟨b, 0, none⟩), .int .i64 n] w fun e w' => e = .returned (.tuple #[.int .i64 (q.slashOp n).1, ev A (q.slashOp n).2.1]) ∧ PoolP b mb m (q.slashOp n).2.2 w w' := by
 have g2 : w.cell? ⟨0, 0, none⟩ = some (.iface 288 (.pointer (some (A 2)))) := hE.cell 2 h2
 have c0 := h.c0
 have f0 := h.row.frozen 0
 have HE := Lib.hid hE
 clear hE
 have HP := Lib.hid h
 have t0 := h.ok.t0
 have t1 := h.ok.t1
 have HOK := Lib.hid (QS.slashOp_ok h.ok n)
 by_cases hn : n < 0 ∨ 100 < n
 · have E1 := Lib.hid (show q.slashOp n = (0, 2, q) by unfold QS.slashOp; rw [if_pos hn])
   have hcases : n < 0 ∨ (0 ≤ n ∧ 100 < n) := by omega
   clear h HOK hn
   rcases hcases with d1 | ⟨d1, d2⟩
   all_goals
     go_enter Tryz.func228, Tryz.ntmps228
     go_wp2
     go_quiet (fail)
     go_wp2
     go_ret2
     exact ⟨by rw [E1.out]; rfl, by rw [E1.out]; exact HP.out.sameN _⟩
 · have hj : q.slashOp n = (q.total * n / 100, 0, ⟨q.total - q.total * n / 100, q.all, q.sh⟩) := by unfold QS.slashOp; rw [if_neg hn]
   have E1 := Lib.hid hj
   have hok := HOK.out; rw [hj] at hok
   have n0 : 0 ≤ n := by omega
   have n1 : n ≤ 100 := by omega
   have hb := slash_bd t0 n0 n1
   obtain ⟨y1, y2, _⟩ := over_yes (show overOk q.total n 100 from ⟨⟨t0, t1⟩, ⟨n0, by omega⟩, by omega, by omega⟩)
   have eo : ev A (overC q.total n 100) = .nilIface := by rw [y1]; rfl
   have HS := Lib.hid (fun k => (HP.out.drewN k).setTotal0 _ hok)
   have HD : Hid (∀ wx, Errs A S wx → Calls Tryz.prog 161 #[.int .i64 q.total, .int .i64 n, .int .i64 100] wx fun e w' => e = .returned (.tuple #[.int .i64 (q.total * n / 100), .nilIface]) ∧ Dr wx w') := (fun wx hE => (part_Down A S q.total n 100 wx hE h2).mono fun e w' ⟨he, hd⟩ => ⟨by rw [he, eo, y2], hd⟩ : ∀ wx, Errs A S wx → Calls Tryz.prog 161 #[.int .i64 q.total, .int .i64 n, .int .i64 100] wx fun e w' => e = .returned (.tuple #[.int .i64 (q.total * n / 100), .nilIface]) ∧ Dr wx w')
   clear y1 y2 eo hok hj HOK h hn
   generalize q.total * n / 100 = x at *
   generalize q.total = T at *
   go_enter Tryz.func228, Tryz.ntmps228
   go_wp2_with (go_at_call 161; refine (HD.out _ HE.out).mono ?_; rintro e w' ⟨rfl, k, hk⟩; subst hk)
   go_ret2
   exact ⟨by rw [E1.out]; rfl, by rw [E1.out]; exact (HS.out k).from⟩
end Go.Proofs.YtajnfkmkombajaaGreatDoor
