/- A pool of package pool, held in a block and a map. -/
import Derived.Test.YtajnfkmkombajacDoorKeep
import Derived.Test.YtajnfkmkombajacDoorErr
import Derived.Test.YtajnfkmkombajacDoorPlPool
import Derived.Maps.OwnSet
import Derived.Deep.QuietTactic
import Derived.BigQuiet
import Derived.Test.YtajnfkmkombajacDoorPart
set_option linter.unusedVariables false
set_option linter.unusedSimpArgs false
namespace Go.Proofs.YtajnfkmkombajacDoor
open Go.RowKit Go.Maps

theorem keyI : Keyed Tryd.prog 3 := int_keyed Tryd.underlying3
theorem zeroI (w : World) : (zeroValue 3).run Tryd.prog w = .ok (.int .i64 0) w := by kernel_rfl

/-- block b is a pool that holds q, its shares lie in the map in block mb (which has had at most n entries) -/
structure PoolAt (b mb n : Nat) (q : QS) (w : World) : Prop where
  ok : q.Ok
  row : RowAt b 74 [.int .i64 q.total, .int .i64 q.all, .map (some mb)] w
  own : ∃ D : DataW Unit, w.ownsMap Tryd.prog 3 (plainElem Tryd.prog 3) mb n D ∧ ∀ o : Int, D.atKey (.int .i64 o) (.lit (.int .i64 0)) = .lit (.int .i64 (q.at o))
  ne : b ≠ mb
theorem PoolAt.c0 {b mb n : Nat} {q : QS} {w : World} (h : PoolAt b mb n q w) : w.cell? ⟨b, 0, none⟩ = some (.int .i64 q.total) := by rw [h.row.cell]; rfl
theorem PoolAt.c1 {b mb n : Nat} {q : QS} {w : World} (h : PoolAt b mb n q w) : w.cell? ⟨b, 1, none⟩ = some (.int .i64 q.all) := by rw [h.row.cell]; rfl
theorem PoolAt.c2 {b mb n : Nat} {q : QS} {w : World} (h : PoolAt b mb n q w) : w.cell? ⟨b, 2, none⟩ = some (.map (some mb)) := by rw [h.row.cell]; rfl
theorem PoolAt.drewN {b mb n : Nat} {q : QS} {w : World} (h : PoolAt b mb n q w) (k : Nat) : PoolAt b mb n q (w.drewN k) := ⟨h.ok, h.row.drewN k, h.own, h.ne⟩

theorem pool_Total (b mb n : Nat) (q : QS) (w : World) (h : PoolAt b mb n q w) : Calls Tryd.prog 34 #[.pointer (some ⟨b, 0, none⟩)] w fun e w' => e = .returned (.int .i64 q.total) ∧ w = w' := by
  have c0 := h.c0
  clear h
  go_enter Tryd.func34, Tryd.ntmps34
  go_wp2
  go_ret
  exact ⟨rfl, rfl⟩
theorem pool_New (w : World) : Calls Tryd.prog 23 #[] w fun e w' => ∃ mb, e = .returned (.pointer (some ⟨w.heap.size + 1, 0, none⟩)) ∧ Below w.heap.size w w' ∧ w.heap.size ≤ mb ∧ PoolAt (w.heap.size + 1) mb 0 QS.new w' := by
  have hmm := @run_makeMap Tryd.prog
  go_enter Tryd.func23, Tryd.ntmps23
  go_wp2
  go_ret
  refine ⟨w.heap.size, by simp, ((Below.refl _ _).alloc (Nat.le_refl _) _).alloc (by simp) _, Nat.le_refl _, QS.new_ok, ?_, ⟨.map [], (World.ownsMap_made w _ _ _).alloc _, fun o => ?_⟩, by omega⟩
  · have := RowAt.new (w.alloc (.map #[] 0)) 74 [.int .i64 0, .int .i64 0, .map (some w.heap.size)]
    have hs : (w.alloc (.map #[] 0)).heap.size = w.heap.size + 1 := by simp
    rw [hs] at this
    exact this
  · rw [atKey_of_not_has (by rfl)]
    unfold QS.at QS.new
    split
    · next ho => obtain ⟨h0, h6⟩ := ownB_iff.1 ho; obtain ⟨k, rfl⟩ := Int.eq_ofNat_of_zero_le h0; match k, h6 with | 0, _ => rfl | 1, _ => rfl | 2, _ => rfl | 3, _ => rfl | 4, _ => rfl | 5, _ => rfl
    · rfl

theorem pool_look (A : Nat → Addr) (S : List Nat) (o n : Int) (w : World) (hE : Errs A S w) (h2 : 2 ∈ S) :
    Calls Tryd.prog 47 #[.int .i64 o, .int .i64 n] w fun e w' => e = .returned (ev A (plookC o n)) ∧ w = w' := by
  have g2 : w.cell? ⟨0, 0, none⟩ = some (.iface 181 (.pointer (some (A 2)))) := hE.cell 2 h2
  clear hE
  by_cases hc : plookC o n = 0
  · obtain ⟨ho, h3, h4⟩ := plookC_zero.1 hc
    obtain ⟨h1, h2'⟩ := ownB_iff.1 ho
    have H := Lib.hid (show ev A (plookC o n) = .nilIface by rw [hc]; rfl)
    clear hc ho
    go_enter Tryd.func47, Tryd.ntmps47
    go_wp2
    go_ret
    exact ⟨by rw [H.out]; rfl, rfl⟩
  · have h22 : plookC o n = 2 := by unfold plookC at hc ⊢; split at hc <;> simp_all
    have H := Lib.hid (show ev A (plookC o n) = .iface 181 (.pointer (some (A 2))) by rw [h22]; rfl)
    have hcases : o < 0 ∨ (0 ≤ o ∧ 6 ≤ o) ∨ (0 ≤ o ∧ o < 6 ∧ n < 1) ∨ (0 ≤ o ∧ o < 6 ∧ 1 ≤ n ∧ 1125899906842624 < n) := by
      have : ¬ (ownB o = true ∧ 1 ≤ n ∧ n ≤ 1125899906842624) := fun h => hc (plookC_zero.2 h)
      rw [ownB_iff] at this; omega
    clear hc h22
    rcases hcases with h1 | ⟨h1, h2'⟩ | ⟨h1, h2', h3⟩ | ⟨h1, h2', h3, h4⟩
    all_goals
      go_enter Tryd.func47, Tryd.ntmps47
      go_wp2
      go_ret
      exact ⟨by rw [H.out]; rfl, rfl⟩

/-- the pool in blocks b and mb may have turned; it holds q then -/
def PoolP (b mb n : Nat) (q : QS) (w w' : World) : Prop := Keep (fun k => k = b ∨ k = mb) w w' ∧ PoolAt b mb n q w'
theorem PoolP.refl {b mb n : Nat} {q : QS} {w : World} (h : PoolAt b mb n q w) : PoolP b mb n q w w := ⟨Keep.refl _ _, h⟩
theorem PoolP.trans {b mb n m : Nat} {p q : QS} {w w1 w2 : World} (h : PoolP b mb n p w w1) (k : PoolP b mb m q w1 w2) : PoolP b mb m q w w2 := ⟨h.1.trans k.1, k.2⟩
theorem PoolAt.mono {b mb n m : Nat} {q : QS} {w : World} (h : PoolAt b mb n q w) (hm : n ≤ m) : PoolAt b mb m q w := by
  obtain ⟨D, h1, h2⟩ := h.own
  exact ⟨h.ok, h.row, ⟨D, h1.mono hm, h2⟩, h.ne⟩
theorem PoolAt.lt {b mb n : Nat} {q : QS} {w : World} (h : PoolAt b mb n q w) : b < w.heap.size ∧ mb < w.heap.size := by
  obtain ⟨D, h1, h2⟩ := h.own
  exact ⟨h.row.lt, h1.lt⟩
theorem PoolAt.keep {F : Nat → Prop} {b mb n : Nat} {q : QS} {w w' : World} (h : PoolAt b mb n q w) (k : Keep F w w') (hb : ¬ F b) (hm : ¬ F mb) : PoolAt b mb n q w' := by
  obtain ⟨D, h1, h2⟩ := h.own
  refine ⟨h.ok, h.row.keep k hb, ⟨D, ?_, h2⟩, h.ne⟩
  obtain ⟨es, clock, e1, e2⟩ := h1
  exact ⟨es, clock, k.heap e1 hm, e2⟩
theorem PoolAt.below {B b mb n : Nat} {q : QS} {w w' : World} (h : PoolAt b mb n q w) (k : Below B w w') (hb : b < B) (hm : mb < B) : PoolAt b mb n q w' := by
  obtain ⟨D, h1, h2⟩ := h.own
  refine ⟨h.ok, h.row.below k hb, ⟨D, ?_, h2⟩, h.ne⟩
  obtain ⟨es, clock, e1, e2⟩ := h1
  exact ⟨es, clock, below_heap k e1 hm, e2⟩

theorem pool_Value (A : Nat → Addr) (S : List Nat) (b mb n : Nat) (q : QS) (o : Int) (w : World) (hE : Errs A S w) (h2 : 2 ∈ S) (h : PoolAt b mb n q w) (ho : (Lit.int .i64 o).wf = true) :
    Calls Tryd.prog 31 #[.pointer (some ⟨b, 0, none⟩), .int .i64 o] w fun e w' => e = .returned (.int .i64 (q.value o)) ∧ Dr w w' := by
  have c0 := h.c0
  have c1 := h.c1
  have c2 := h.c2
  have HE := Lib.hid hE; clear hE
  by_cases h0 : q.all = 0
  · have HV := Lib.hid (QS.Ok.value_nil h0 o)
    rw [h0] at c1
    clear h h0
    go_enter Tryd.func31, Tryd.ntmps31
    go_wp2
    go_ret
    exact ⟨by rw [HV.out]; rfl, Dr.refl _⟩
  · have hv : q.value o = overN (q.at o) q.total q.all := by unfold QS.value; rw [if_neg h0]
    have HV := Lib.hid hv; clear hv
    have hz : (q.all == 0) = false := by simp [h0]
    obtain ⟨D, hown, hat⟩ := h.own
    have hlk : ∀ k : Nat, (Instr.lookup 72 (.map (some mb)) (.int .i64 o) false).run Tryd.prog (w.drewN k) = .ok (.int .i64 (q.at o)) (w.drewN k) := fun k => by
      obtain ⟨c, hrun, hc, _⟩ := (show (w.drewN k).ownsMap Tryd.prog 3 (plainElem Tryd.prog 3) mb n D from hown).lookup_int keyI Tryd.underlying72 Tryd.underlying3 (zeroI _) (keyOf_int_mk Tryd.underlying3 ho)
      have hco : c = q.at o := by have := hc.symm.trans (hat o); simpa using this
      rw [← hco]; exact hrun
    have hlk0 := hlk 0
    clear h h0 hown hat
    go_enter Tryd.func31, Tryd.ntmps31
    go_wp2_with fail
    go_quiet ((go_at_call 48; exact Calls.quiet_of ((part_Down A S _ _ _ _ (HE.out.drewN _) h2).mono fun _ _ ⟨a, k, b⟩ => ⟨a, k, b.symm⟩)))
    go_wp2
    go_ret
    exact ⟨by rw [HV.out]; rfl, nq, rfl⟩

theorem turned_cell {w w' : World} {mb b i : Nat} (h : w.mapTurned w' mb) (hb : b < w.heap.size) (hne : b ≠ mb) : w'.cell? ⟨b, i, none⟩ = w.cell? ⟨b, i, none⟩ :=
  World.cell?_of_block (w := w) (h.grown.block b hb (fun e => hne (by simpa using e)))

/-- what is left behind change -/
theorem pool_changed {b mb n : Nat} {q : QS} {o s m : Int} {w w2 : World} {D' : DataW Unit} (h : PoolAt b mb n q w) (ho : ownB o = true) (hok : (q.change o s m).Ok)
    (hg : ((w.setCell ⟨b, 0, none⟩ (.int .i64 (q.total + m))).setCell ⟨b, 1, none⟩ (.int .i64 (q.all + s))).mapTurned w2 mb) (hown : w2.ownsMap Tryd.prog 3 (plainElem Tryd.prog 3) mb (n + 1) D')
    (hat : ∀ k : Int, D'.atKey (.int .i64 k) (.lit (.int .i64 0)) = .lit (.int .i64 (if k = o then q.at o + s else q.at k))) : PoolP b mb (n + 1) (q.change o s m) w w2 := by
  have hr := (h.row.set 0 (.int .i64 (q.total + m))).set 1 (.int .i64 (q.all + s))
  have hk : Keep (fun k => k = b ∨ k = mb) w ((w.setCell ⟨b, 0, none⟩ (.int .i64 (q.total + m))).setCell ⟨b, 1, none⟩ (.int .i64 (q.all + s))) :=
    ((Keep.refl _ _).setCell (p := ⟨b, 0, none⟩) (.inl (.inl rfl)) _).setCell (p := ⟨b, 1, none⟩) (.inl (.inl rfl)) _
  refine ⟨hk.grown hg.grown (fun k hk => .inl (.inr (by simpa using hk.symm))), hok, ?_, ⟨D', hown, fun k => by rw [hat k, QS.at_change h.ok ho]⟩, h.ne⟩
  exact (hg.grown.block b hr.lt (fun e => h.ne (by simpa using e))).trans hr

set_option maxRecDepth 8000 in
set_option maxHeartbeats 1000000 in
/-- owner o's shares in the map, n entries more at most -/
theorem pool_change (b mb n : Nat) (q : QS) (o s m : Int) (w : World) (h : PoolAt b mb n q w) (ho : ownB o = true) (hok : (q.change o s m).Ok) (hs : -1125899906842624 ≤ s ∧ s ≤ 1125899906842624) (hm : -1125899906842624 ≤ m ∧ m ≤ 1125899906842624) (hn : n < maxLen) :
    Calls Tryd.prog 50 #[.pointer (some ⟨b, 0, none⟩), .int .i64 o, .int .i64 s, .int .i64 m] w fun e w' => e = .returned (.tuple #[]) ∧ PoolP b mb (n + 1) (q.change o s m) w w' := by
  have c0 := h.c0
  have c1 := h.c1
  have c2 := h.c2
  have f0 := h.row.frozen 0
  have f1 := h.row.frozen 1
  have hlt := h.lt.1
  have hnemb := h.ne
  obtain ⟨D, hown, hat⟩ := h.own
  obtain ⟨o0, o1⟩ := ownB_iff.1 ho
  have hkey : keyOf Tryd.prog 3 (.int .i64 o) = some (.int .i64 o) := keyOf_int_mk Tryd.underlying3 (WalkArith.wf_i64 (by omega))
  have hisk : WideAt.IsKeyLit (.int .i64 o) := keyI.key hkey
  have hisM := hown.isMap
  have b1 := h.ok.at_bd o
  have b2 := h.ok.a1
  have b3 := h.ok.t0
  have b4 := h.ok.t1
  have hato := hat o
  have HC := Lib.hid (fun (w2 : World) (D' : DataW Unit) => @pool_changed b mb n q o s m w w2 D' h ho hok)
  have HAT := Lib.hid hat
  have HO := Lib.hid (fun u v => (hown.setCell (a := ⟨b, 0, none⟩) (by exact fun e => hnemb e.symm) u).setCell (a := ⟨b, 1, none⟩) (by exact fun e => hnemb e.symm) v)
  clear h hok ho hat hown
  generalize hT : q.total = T at *
  generalize hA : q.all = U at *
  generalize hX : q.at o = X at *
  have hwf : (Lit.int .i64 (X + s)).wf = true := WalkArith.wf_i64 (by omega)
  clear hT hA
  have ho1 := HO.out (.int .i64 (T + m)) (.int .i64 (U + s))
  obtain ⟨c, l1, hc, _⟩ := ho1.lookup_int keyI Tryd.underlying72 Tryd.underlying3 (zeroI _) hkey
  obtain rfl : X = c := by have := hato.symm.trans hc; simpa using this
  obtain ⟨w2, s2, hown2, hturn2⟩ := ho1.store keyI Tryd.underlying72 hn hkey (plainElem_int Tryd.underlying3 hwf)
  have c3 : w2.cell? ⟨b, 2, none⟩ = some (.map (some mb)) := (turned_cell (b := b) (i := 2) hturn2 (by simpa [World.setCell] using hlt) hnemb).trans (by simpa [go_sem] using c2)
  obtain ⟨c', l2, hc', _⟩ := hown2.lookup_int keyI Tryd.underlying72 Tryd.underlying3 (zeroI _) hkey
  obtain rfl : X + s = c' := by have := (Maps.atKey_put_same hisM hisk _ _).symm.trans hc'; simpa using this
  have hlt2 : b < w2.heap.size := Nat.lt_of_lt_of_le (by simpa [World.setCell] using hlt) hturn2.grown.size
  have HT2 := Lib.hid hturn2; have HW2 := Lib.hid hown2
  clear ho1 hc hc' hturn2 hown2 hwf
  by_cases hz : X + s = 0
  · have hz' : (X + s == 0) = true := by simp [hz]
    have HZ := Lib.hid hz; clear hz
    obtain ⟨w3, d3, hown3, hturn3⟩ := HW2.out.drop keyI Tryd.underlying72 hkey 0
    have HT3 := Lib.hid hturn3; have HW3 := Lib.hid hown3
    clear hturn3 hown3
    go_enter Tryd.func50, Tryd.ntmps50
    go_wp2
    go_end0
    refine ⟨rfl, HC.out _ _ (HT2.out.trans HT3.out) HW3.out fun k => ?_⟩
    by_cases hk : k = o
    · subst hk; rw [if_pos rfl, Maps.atKey_del_same, HZ.out]
    · rw [if_neg hk, Maps.atKey_del_other (by simpa using hk), Maps.atKey_put_other (by simpa using hk)]; exact HAT.out k
  · have hz' : (X + s == 0) = false := by simp [hz]
    have HZ := Lib.hid hz; clear hz
    go_enter Tryd.func50, Tryd.ntmps50
    go_wp2
    go_end0
    refine ⟨rfl, HC.out _ _ HT2.out HW2.out fun k => ?_⟩
    by_cases hk : k = o
    · subst hk; rw [if_pos rfl, Maps.atKey_put_same hisM hisk]
    · rw [if_neg hk, Maps.atKey_put_other (by simpa using hk)]; exact HAT.out k
end Go.Proofs.YtajnfkmkombajacDoor
