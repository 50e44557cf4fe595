/-
  Scripts: the map of commands.
  Plain: what commands tell are ints; a chain's level stays below a bound. No program in sight.
  Scripts: what a command of the map does, whichever it is.
  The walk of a script: its answers; sums.
-/
import Derived.Test.YtajnfkmkombajaaGreatDoorQSP33
import Derived.Test.YtajnfkmkombajaaGreatDoorQSP01
import Derived.Test.YtajnfkmkombajaaGreatDoorQSP21
import Derived.Test.YtajnfkmkombajaaGreatDoorQSP23
import Derived.Test.YtajnfkmkombajaaGreatDoorQSP17
import Derived.Deep.AppendLies
import Derived.Deep.LoopGhost
set_option linter.unusedVariables false
set_option linter.unusedSimpArgs false
set_option linter.unusedVariables false
namespace Go.Proofs.YtajnfkmkombajaaGreatDoor
open Go Go.RowKit Go.Maps Go.ChangeMaps
def cmdFn : Nat → Nat
 | 0 => 90
 | 1 => 92
 | 2 => 93
 | 3 => 95
 | 4 => 97
 | 5 => 100
 | 6 => 102
 | 7 => 104
 | 8 => 108
 | 9 => 110
 | 10 => 112
 | 11 => 114
 | 12 => 116
 | 13 => 118
 | _ => 120
def CmdFv (w : World) (j : Nat) (fv : Value) : Prop :=
 if j < 5 then ∃ h, fv = closV 144 h ∧ w.cell? ⟨h, 0, none⟩ = some (fnV (cmdFn j))
 else if j < 7 then ∃ h, fv = closV 148 h ∧ w.cell? ⟨h, 0, none⟩ = some (fnV (cmdFn j))
 else if 8 ≤ j ∧ j < 14 then ∃ h k, fv = closV 148 h ∧ w.cell? ⟨h, 0, none⟩ = some (closV 153 k) ∧ w.cell? ⟨k, 0, none⟩ = some (fnV (cmdFn j))
 else fv = fnV (cmdFn j)
theorem CmdFv.mono {w w' : World} {j : Nat} {fv : Value} (h : CmdFv w j fv) (k : ∀ (b : Nat) v, w.cell? ⟨b, 0, none⟩ = some v → w'.cell? ⟨b, 0, none⟩ = some v) : CmdFv w' j fv := by
 unfold CmdFv at h ⊢
 split at h
 · next hj => rw [if_pos hj]; obtain ⟨b, h1, h2⟩ := h; exact ⟨b, h1, k _ _ h2⟩
 · next hj =>
   rw [if_neg hj]
   split at h
   · next hj => rw [if_pos hj]; obtain ⟨b, h1, h2⟩ := h; exact ⟨b, h1, k _ _ h2⟩
   · next hj =>
     rw [if_neg hj]
     split at h
     · next hj => rw [if_pos hj]; obtain ⟨b, c, h1, h2, h3⟩ := h; exact ⟨b, c, h1, k _ _ h2, k _ _ h3⟩
     · next hj => rw [if_neg hj]; exact h
def CmdV (w : World) (j : Nat) (v : Value) : Prop := ∃ fv, v = .agg #[.string (bstr (cmdForm j)), fv] ∧ CmdFv w j fv
def cmdWord (j : Nat) : List UInt8 := cmdWords.getD j []
structure CmdsAt (W : World) (g i : Nat) (w : World) : Prop where
 below : Below W.heap.size W w
 gnew : W.heap.size ≤ g
 map : ∃ es clock, w.heap[g]? = some (.map es clock) ∧ StrKeysAll es.toList ∧ (∀ j, j < i → ∃ v, atStr (bstr (cmdWord j)) es.toList = some v ∧ CmdV w j v) ∧ ∀ k, (∀ j, j < i → k ≠ bstr (cmdWord j)) → atStr k es.toList = none
theorem CmdsAt.next {W w w' : World} {g i : Nat} (h : CmdsAt W g i w) (k : Below w.heap.size w w') : CmdsAt W g i w' := by
 obtain ⟨es, clock, h1, h2, h3, h4⟩ := h.map
 refine ⟨btrans h.below k, h.gnew, es, clock, below_heap k h1 (lt_of_block h1), h2, fun j hj => ?_, h4⟩
 obtain ⟨v, a1, fv, a2, a3⟩ := h3 j hj
 exact ⟨v, a1, fv, a2, a3.mono fun b v hv => by rw [k.cell (World.block_lt_of_cell? w _ hv)]; exact hv⟩
theorem cmdWords_apart : ∀ i, i < 15 → ∀ j, j < i → cmdWord i ≠ cmdWord j := by decide
theorem bstr_inj {a b : List UInt8} (h : bstr a = bstr b) : a = b := by
 have := congrArg (fun x : ByteArray => x.data.toList) h
 simpa [bstr] using this
theorem CmdsAt.new (W : World) : CmdsAt W W.heap.size 0 (W.alloc (.map #[] 0)) :=
 ⟨(Below.refl _ _).alloc (Nat.le_refl _) _, Nat.le_refl _, #[], 0, heap_alloc_new _ _, (fun e he => by simp at he), (fun j hj => by omega), fun k _ => rfl⟩
theorem CmdsAt.step {W w : World} {g i : Nat} {k : ByteArray} {v : Value} (h : CmdsAt W g i w) (hi : i < 15) (hk : k = bstr (cmdWord i)) (hv : CmdV w i v) :
   ∃ w2, (Instr.mapUpdate 115 (.map (some g)) (.string k) v).run Tryz.prog w = .ok () w2 ∧ CmdsAt W g (i + 1) w2 := by
 obtain ⟨es, clock, h1, h2, h3, h4⟩ := h.map
 have hg := lt_of_block h1
 have hne : atStr k es.toList = none := h4 k (fun j hj e => cmdWords_apart i hi j hj (bstr_inj (hk.symm.trans e)))
 refine ⟨_, run_insert_str Tryz.underlying115 Tryz.underlying9 h1 h2 k v hne, ?_⟩
 have hcell : ∀ (b : Nat) u, w.cell? ⟨b, 0, none⟩ = some u → (setBlock w g (.map (es.push ⟨.string k, v, clock⟩) (clock + 1))).cell? ⟨b, 0, none⟩ = some u := fun b u hu => by
   have hb : b ≠ g := fun e => by subst e; unfold World.cell? at hu; rw [h1] at hu; simp at hu
   rw [show (setBlock w g (.map (es.push ⟨.string k, v, clock⟩) (clock + 1))).cell? ⟨b, 0, none⟩ = w.cell? ⟨b, 0, none⟩ from World.cell?_of_block (w := w) (by show (w.heap.setIfInBounds g _)[b]? = _; rw [Array.getElem?_setIfInBounds_ne (Ne.symm hb)])]
   exact hu
 refine ⟨⟨h.below.os, h.below.tape, h.below.output, by show _ ≤ (w.heap.setIfInBounds g _).size; rw [Array.size_setIfInBounds]; exact h.below.size, fun b hb => ?_⟩, h.gnew, es.push ⟨.string k, v, clock⟩, clock + 1, ?_, ?_, fun j hj => ?_, fun q hq => ?_⟩
 · have := h.gnew
   show (w.heap.setIfInBounds g _)[b]? = _
   rw [Array.getElem?_setIfInBounds_ne (by omega)]
   exact h.below.block b hb
 · show (w.heap.setIfInBounds g _)[g]? = _
   rw [Array.getElem?_setIfInBounds_self_of_lt hg]
 · intro e he
   rw [Array.toList_push] at he
   rcases List.mem_append.1 he with he | he
   · exact h2 e he
   · obtain rfl := List.mem_singleton.1 he; exact ⟨k, rfl⟩
 · rw [Array.toList_push, atStr_push _ _ _ _ _ h2]
   by_cases hji : j = i
   · subst hji
     rw [← hk, hne]
     exact ⟨v, by rw [(MapKept.bytes_beq _ _).2 rfl]; rfl, by obtain ⟨fv, a, b⟩ := hv; exact ⟨fv, a, b.mono hcell⟩⟩
   · obtain ⟨u, a1, fv, a2, a3⟩ := h3 j (by omega)
     rw [a1]
     exact ⟨u, rfl, fv, a2, a3.mono hcell⟩
 · rw [Array.toList_push, atStr_push _ _ _ _ _ h2, h4 q (fun j hj => hq j (by omega))]
   have : (q == k) = false := by
     cases hb : (q == k) with
     | false => rfl
     | true => exact absurd ((MapKept.bytes_beq q k).1 hb) (by rw [hk]; exact hq i (by omega))
   rw [this]; rfl
set_option maxRecDepth 8000 in
set_option maxHeartbeats 1000000 in
theorem scr_commands (w : World) : Calls Tryz.prog 57 #[] w fun e w' => ∃ g, e = .returned (.map (some g)) ∧ CmdsAt w g 15 w' := by
 have hmk : ∀ w : World, (Instr.makeMap 115 none).run Tryz.prog w = .ok (.map (some w.heap.size)) (w.alloc (.map #[] 0)) := fun _ => rfl
 have H0 := Lib.hid (CmdsAt.new w)
 obtain ⟨w0, hw0⟩ : ∃ w0, w.alloc (.map #[] 0) = w0 := ⟨_, rfl⟩
 rw [hw0] at H0
 obtain ⟨g, hg⟩ : ∃ g, w.heap.size = g := ⟨_, rfl⟩
 rw [hg] at H0
 go_enter Tryz.func57, Tryz.ntmps57
 go_wp2_with fail
 refine (scr_act _ _ _ _ _).mono ?_
 rintro e v0 ⟨rfl, kb, kc⟩
 obtain ⟨w1, hup, hn⟩ := (H0.out.next kb).step (k := ⟨#[112, 97, 121]⟩) (v := .agg #[.string ⟨#[100, 100, 110]⟩, closV 144 _]) (by decide) rfl ⟨_, rfl, ⟨_, rfl, kc⟩⟩
 have H1 := Lib.hid hn
 have U1 := hup; clear hn hup kb kc
 go_wp2_with fail
 refine (scr_act _ _ _ _ _).mono ?_
 rintro e v1 ⟨rfl, kb, kc⟩
 obtain ⟨w2, hup, hn⟩ := (H1.out.next kb).step (k := ⟨#[115, 116, 97, 107, 101]⟩) (v := .agg #[.string ⟨#[100, 100, 110]⟩, closV 144 _]) (by decide) rfl ⟨_, rfl, ⟨_, rfl, kc⟩⟩
 have H2 := Lib.hid hn
 have U2 := hup; clear hn hup kb kc
 go_wp2_with fail
 refine (scr_act _ _ _ _ _).mono ?_
 rintro e v2 ⟨rfl, kb, kc⟩
 obtain ⟨w3, hup, hn⟩ := (H2.out.next kb).step (k := ⟨#[117, 110, 115, 116, 97, 107, 101]⟩) (v := .agg #[.string ⟨#[100, 100, 110]⟩, closV 144 _]) (by decide) rfl ⟨_, rfl, ⟨_, rfl, kc⟩⟩
 have H3 := Lib.hid hn
 have U3 := hup; clear hn hup kb kc
 go_wp2_with fail
 refine (scr_act _ _ _ _ _).mono ?_
 rintro e v3 ⟨rfl, kb, kc⟩
 obtain ⟨w4, hup, hn⟩ := (H3.out.next kb).step (k := ⟨#[97, 99, 99, 117, 115, 101]⟩) (v := .agg #[.string ⟨#[100, 100, 110, 110]⟩, closV 144 _]) (by decide) rfl ⟨_, rfl, ⟨_, rfl, kc⟩⟩
 have H4 := Lib.hid hn
 have U4 := hup; clear hn hup kb kc
 go_wp2_with fail
 refine (scr_act _ _ _ _ _).mono ?_
 rintro e v4 ⟨rfl, kb, kc⟩
 obtain ⟨w5, hup, hn⟩ := (H4.out.next kb).step (k := ⟨#[99, 121, 99, 108, 101]⟩) (v := .agg #[.string ⟨#[]⟩, closV 144 _]) (by decide) rfl ⟨_, rfl, ⟨_, rfl, kc⟩⟩
 have H5 := Lib.hid hn
 have U5 := hup; clear hn hup kb kc
 go_wp2_with fail
 refine (scr_tell _ _ _ _ _).mono ?_
 rintro e v5 ⟨rfl, kb, kc⟩
 obtain ⟨w6, hup, hn⟩ := (H5.out.next kb).step (k := ⟨#[102, 114, 101, 101]⟩) (v := .agg #[.string ⟨#[100]⟩, closV 148 _]) (by decide) rfl ⟨_, rfl, ⟨_, rfl, kc⟩⟩
 have H6 := Lib.hid hn
 have U6 := hup; clear hn hup kb kc
 go_wp2_with fail
 refine (scr_tell _ _ _ _ _).mono ?_
 rintro e v6 ⟨rfl, kb, kc⟩
 obtain ⟨w7, hup, hn⟩ := (H6.out.next kb).step (k := ⟨#[116, 117, 114, 110]⟩) (v := .agg #[.string ⟨#[100]⟩, closV 148 _]) (by decide) rfl ⟨_, rfl, ⟨_, rfl, kc⟩⟩
 have H7 := Lib.hid hn
 have U7 := hup; clear hn hup kb kc
 obtain ⟨w8, hup, hn⟩ := H7.out.step (k := ⟨#[98, 97, 107, 101]⟩) (v := .agg #[.string ⟨#[100]⟩, fnV 104]) (by decide) rfl ⟨_, rfl, rfl⟩
 have H8 := Lib.hid hn
 have U8 := hup; unfold fnV at U8; clear hn hup
 go_wp2_with fail
 refine (scr_look _ _ _ _ _).mono ?_
 rintro e v8 ⟨hh8, -, rfl, kb, kc, kd⟩
 obtain ⟨w9, hup, hn⟩ := (H8.out.next kb).step (k := ⟨#[104, 97, 115]⟩) (v := .agg #[.string ⟨#[100]⟩, closV 148 hh8]) (by decide) rfl ⟨_, rfl, ⟨_, _, rfl, kc, kd⟩⟩
 have H9 := Lib.hid hn
 have U9 := hup; clear hn hup kb kc kd
 go_wp2_with fail
 refine (scr_look _ _ _ _ _).mono ?_
 rintro e v9 ⟨hh9, -, rfl, kb, kc, kd⟩
 obtain ⟨w10, hup, hn⟩ := (H9.out.next kb).step (k := ⟨#[115, 116, 97, 107, 101, 100]⟩) (v := .agg #[.string ⟨#[100]⟩, closV 148 hh9]) (by decide) rfl ⟨_, rfl, ⟨_, _, rfl, kc, kd⟩⟩
 have H10 := Lib.hid hn
 have U10 := hup; clear hn hup kb kc kd
 go_wp2_with fail
 refine (scr_look _ _ _ _ _).mono ?_
 rintro e v10 ⟨hh10, -, rfl, kb, kc, kd⟩
 obtain ⟨w11, hup, hn⟩ := (H10.out.next kb).step (k := ⟨#[118, 97, 108, 117, 101]⟩) (v := .agg #[.string ⟨#[100, 100]⟩, closV 148 hh10]) (by decide) rfl ⟨_, rfl, ⟨_, _, rfl, kc, kd⟩⟩
 have H11 := Lib.hid hn
 have U11 := hup; clear hn hup kb kc kd
 go_wp2_with fail
 refine (scr_look _ _ _ _ _).mono ?_
 rintro e v11 ⟨hh11, -, rfl, kb, kc, kd⟩
 obtain ⟨w12, hup, hn⟩ := (H11.out.next kb).step (k := ⟨#[119, 97, 105, 116, 115]⟩) (v := .agg #[.string ⟨#[100, 100, 110]⟩, closV 148 hh11]) (by decide) rfl ⟨_, rfl, ⟨_, _, rfl, kc, kd⟩⟩
 have H12 := Lib.hid hn
 have U12 := hup; clear hn hup kb kc kd
 go_wp2_with fail
 refine (scr_look _ _ _ _ _).mono ?_
 rintro e v12 ⟨hh12, -, rfl, kb, kc, kd⟩
 obtain ⟨w13, hup, hn⟩ := (H12.out.next kb).step (k := ⟨#[115, 117, 112, 112, 108, 121]⟩) (v := .agg #[.string ⟨#[]⟩, closV 148 hh12]) (by decide) rfl ⟨_, rfl, ⟨_, _, rfl, kc, kd⟩⟩
 have H13 := Lib.hid hn
 have U13 := hup; clear hn hup kb kc kd
 go_wp2_with fail
 refine (scr_look _ _ _ _ _).mono ?_
 rintro e v13 ⟨hh13, -, rfl, kb, kc, kd⟩
 obtain ⟨w14, hup, hn⟩ := (H13.out.next kb).step (k := ⟨#[98, 111, 110, 117, 115]⟩) (v := .agg #[.string ⟨#[]⟩, closV 148 hh13]) (by decide) rfl ⟨_, rfl, ⟨_, _, rfl, kc, kd⟩⟩
 have H14 := Lib.hid hn
 have U14 := hup; clear hn hup kb kc kd
 obtain ⟨w15, hup, hn⟩ := H14.out.step (k := ⟨#[97, 116]⟩) (v := .agg #[.string ⟨#[]⟩, fnV 120]) (by decide) rfl ⟨_, rfl, rfl⟩
 have H15 := Lib.hid hn
 have U15 := hup; unfold fnV at U15; clear hn hup
 go_wp2_with fail
 go_ret
 exact ⟨g, rfl, H15.out⟩
end Go.Proofs.YtajnfkmkombajaaGreatDoor
namespace Go.Proofs.YtajnfkmkombajaaGreatDoor
open Go.RowKit
def Lv (x : CS) : Prop := x.level ≤ 4194305
theorem CS.bt_lv {x : CS} (h : Lv x) (sd : Nat) (r : Int) : Lv (x.btS sd r) := by
 unfold CS.btS
 split
 · next hc =>
   have hr := (turnC_zero hc).2.1.2
   have hl : (x.reward (x.turnV sd r)).2.level = x.level := by
     unfold CS.reward
     split
     · rfl
     · split
       · rfl
       · split <;> rfl
   have hj : ∀ (l : List (Int × EV)) (c : CS), (l.foldl CS.judge c).level = c.level := by
     intro l
     induction l with
     | nil => intro c; rfl
     | cons y l ih => intro c; rw [List.foldl_cons, ih]; rfl
   show ((x.reward (x.turnV sd r)).2.stepOp).level ≤ _
   unfold CS.stepOp
   split
   · show (CS.judged _).level ≤ _
     unfold CS.judged
     rw [hj, hl]; show x.level + 1 ≤ _; omega
   · show (x.reward (x.turnV sd r)).2.level + 1 ≤ _
     rw [hl]; omega
 · exact h
theorem CS.cycleN_lv (sd : Nat) : ∀ (m : Nat) {x : CS}, Lv x → Lv (CS.cycleN sd m x).2
 | 0, _, h => h
 | m + 1, x, h => by
   unfold CS.cycleN
   split
   · exact h
   · exact CS.cycleN_lv sd m (CS.bt_lv h sd 0)
theorem CS.cmd_lv {x : CS} (h : Lv x) (sd : Nat) (i : Nat) (n : List Int) : Lv (x.cmdOp sd i n).2.2 := by
 unfold CS.cmdOp
 split
 · exact h
 · show (x.stakeOp _ _ _).2.level ≤ _
   unfold CS.stakeOp
   split
   · exact h
   · split <;> exact h
 · exact h
 · exact h
 · exact CS.cycleN_lv sd _ h
 · show (x.freeOp _).2.2.level ≤ _
   unfold CS.freeOp
   split <;> exact h
 · exact h
 · exact CS.bt_lv h sd _
 all_goals exact h
theorem CS.line_lv {x : CS} (h : Lv x) (sd : Nat) (s : ByteArray) : Lv (x.lineOp sd s).2.2 := by
 unfold CS.lineOp
 split
 · exact h
 · split
   · exact h
   · exact CS.cmd_lv h sd _ _
def Amt (n : Int) : Prop := 0 ≤ n ∧ n ≤ 1125899906842624
theorem Amt.zero : Amt 0 := ⟨Int.le_refl _, by decide⟩
theorem SS.pool_ok {s : SS} (h : s.Ok) {k : Int} {q : QS} (hq : s.pool k = some q) : q.Ok := by
 obtain ⟨h0, h3⟩ := h.lt hq
 unfold SS.pool at hq
 rw [if_pos h0] at hq
 refine h.pools q ?_
 have : k.toNat < s.P.length := by rw [h.three]; omega
 rw [List.getD_eq_getElem?_getD, List.getElem?_eq_getElem this] at hq
 simp only [Option.getD_some] at hq
 rw [← hq]; exact List.getElem_mem this
theorem SS.staked_amt {s : SS} (h : s.Ok) (k : Int) : Amt (s.staked k) := by
 unfold SS.staked
 cases hq : s.pool k with
 | none => exact Amt.zero
 | some q => have := SS.pool_ok h hq; exact ⟨this.t0, this.t1⟩
theorem SS.value_amt {s : SS} (h : s.Ok) (o k : Int) : Amt (s.value o k) := by
 unfold SS.value
 cases hq : s.pool k with
 | none => exact Amt.zero
 | some q =>
   have := SS.pool_ok h hq
   have hb := this.value_bd o
   exact ⟨hb.1, Int.le_trans hb.2 this.t1⟩
theorem SS.waits_amt {s : SS} (h : s.Ok) (o k c : Int) : Amt (s.waits o k c) := by
 unfold SS.waits SS.find
 cases hq : s.W.find? (·.at k c) with
 | none => exact Amt.zero
 | some y =>
   have := (h.waits y (List.mem_of_find?_eq_some hq)).1
   have hb := this.value_bd o
   exact ⟨hb.1, Int.le_trans hb.2 this.t1⟩
theorem CS.free_amt {x : CS} (h : x.Inv) (o : Int) : Amt (x.freeOp o).1 := by
 obtain ⟨f1, f2, f3⟩ := SS.free_total h.s o x.cycle
 have fs := SS.freeOp_ok h.s o x.cycle
 have t0 := fs.total_bd.1
 have hb := h.bal; have hm := h.p.most; have s0 := h.p.sum_bd
 unfold CS.freeOp
 split
 · exact Amt.zero
 · exact ⟨f2, by simp only; omega⟩
theorem CS.bt_amt {x : CS} (h : x.Inv) (sd : Nat) (r : Int) : Amt (x.btV sd r) ∧ Amt (x.btN sd r) := by
 have hv := turnV_bd h sd r
 obtain ⟨i1, i2, i3, i4, i5⟩ := CS.reward_inv h (x.turnV sd r)
 have hm := CS.reward_most h (x.turnV sd r)
 unfold CS.btV CS.btN
 split
 · exact ⟨⟨hv.1, by omega⟩, ⟨i2, hm⟩⟩
 · exact ⟨Amt.zero, Amt.zero⟩
end Go.Proofs.YtajnfkmkombajaaGreatDoor
namespace Go.Proofs.YtajnfkmkombajaaGreatDoor
open Go.RowKit Go.Maps
theorem Amt.i64 {n : Int} (h : Amt n) : I64 n := ⟨by have := h.1; omega, by have := h.2; omega⟩
def Done (A : Nat → Addr) (w : World) (F : Nat → Prop) (cb sd m : Nat) (r : ByteArray × Nat × CS) (e : Ending) (w' : World) : Prop := e = .returned (.tuple #[.string r.1, ev A r.2.1]) ∧ Left w F cb sd m r.2.2 w'
def Doing (fv p nv : Value) (w : World) (Q : Ending → World → Prop) : Prop :=
 (∃ f h, fv = closV f h ∧ Entered f ∧ Calls Tryz.prog f #[p, nv, .pointer (some ⟨h, 0, none⟩)] w Q) ∨ (∃ f, fv = fnV f ∧ Entered f ∧ Calls Tryz.prog f #[p, nv] w Q)
theorem scr_ent0 : Entered 90 := fun _ _ => enters_of Tryz.func90 (by kernel_rfl) rfl _ _
theorem scr_ent1 : Entered 92 := fun _ _ => enters_of Tryz.func92 (by kernel_rfl) rfl _ _
theorem scr_ent2 : Entered 93 := fun _ _ => enters_of Tryz.func93 (by kernel_rfl) rfl _ _
theorem scr_ent3 : Entered 95 := fun _ _ => enters_of Tryz.func95 (by kernel_rfl) rfl _ _
theorem scr_ent4 : Entered 97 := fun _ _ => enters_of Tryz.func97 (by kernel_rfl) rfl _ _
theorem scr_ent5 : Entered 100 := fun _ _ => enters_of Tryz.func100 (by kernel_rfl) rfl _ _
theorem scr_ent6 : Entered 102 := fun _ _ => enters_of Tryz.func102 (by kernel_rfl) rfl _ _
theorem scr_ent7 : Entered 104 := fun _ _ => enters_of Tryz.func104 (by kernel_rfl) rfl _ _
theorem scr_ent8 : Entered 108 := fun _ _ => enters_of Tryz.func108 (by kernel_rfl) rfl _ _
theorem scr_ent9 : Entered 110 := fun _ _ => enters_of Tryz.func110 (by kernel_rfl) rfl _ _
theorem scr_ent10 : Entered 112 := fun _ _ => enters_of Tryz.func112 (by kernel_rfl) rfl _ _
theorem scr_ent11 : Entered 114 := fun _ _ => enters_of Tryz.func114 (by kernel_rfl) rfl _ _
theorem scr_ent12 : Entered 116 := fun _ _ => enters_of Tryz.func116 (by kernel_rfl) rfl _ _
theorem scr_ent13 : Entered 118 := fun _ _ => enters_of Tryz.func118 (by kernel_rfl) rfl _ _
theorem scr_ent14 : Entered 120 := fun _ _ => enters_of Tryz.func120 (by kernel_rfl) rfl _ _
theorem scr_ent_act : Entered 144 := fun _ _ => enters_of Tryz.func144 (by kernel_rfl) rfl _ _
theorem scr_ent_tell : Entered 148 := fun _ _ => enters_of Tryz.func148 (by kernel_rfl) rfl _ _
section
variable (A : Nat → Addr) (W : World) (cb : Nat) (K : ChL) (n sd : Nat) (x : CS) (pb : Nat) (w : World) (ao : Option Addr) (cap : Nat) (ns : List Int)
theorem Left.lib {A : Nat → Addr} {W : World} {cb : Nat} {K : ChL} {n sd : Nat} {x : CS} {pb : Nat} {w w1 : World} {q : Nat} {y : CS} (h : CmdIn A W cb K n sd x pb w) (g : Left w (K.foot cb) cb sd q y w1) : Lw A w1 := by
 obtain ⟨K', m, -, g⟩ := g
 exact h.lw.below (h.cn.of g).below
theorem scr_do0 (fv : Value) (h : CmdIn A W cb K n sd x pb w) (hf : CmdFv w 0 fv) (R : RdI .i64 w ao 3 cap ns) (hb : ∀ a, ao = some a → ¬ K.foot cb a.block) (hns : ∀ v ∈ ns, 0 ≤ v ∧ v ≤ 9999999) :
   Doing fv (.pointer (some ⟨pb, 0, none⟩)) (.slice ao 3 cap) w (Done A w (K.foot cb) cb sd (n + 6 + x.s.W.length) (x.cmdOp sd 0 ns)) := by
 obtain ⟨q, rfl, hq⟩ : ∃ q, fv = closV 144 q ∧ w.cell? ⟨q, 0, none⟩ = some (fnV (cmdFn 0)) := hf
 exact .inl ⟨_, q, rfl, scr_ent_act, scr_act1 A _ q _ _ w _ _ scr_ent0 hq (scr_cmd0 A W cb K n sd x pb w ao cap ns h R hb hns)⟩
theorem scr_do1 (fv : Value) (h : CmdIn A W cb K n sd x pb w) (hf : CmdFv w 1 fv) (R : RdI .i64 w ao 3 cap ns) (hb : ∀ a, ao = some a → ¬ K.foot cb a.block) (hns : ∀ v ∈ ns, 0 ≤ v ∧ v ≤ 9999999) :
   Doing fv (.pointer (some ⟨pb, 0, none⟩)) (.slice ao 3 cap) w (Done A w (K.foot cb) cb sd (n + 6 + x.s.W.length) (x.cmdOp sd 1 ns)) := by
 obtain ⟨q, rfl, hq⟩ : ∃ q, fv = closV 144 q ∧ w.cell? ⟨q, 0, none⟩ = some (fnV (cmdFn 1)) := hf
 exact .inl ⟨_, q, rfl, scr_ent_act, scr_act1 A _ q _ _ w _ _ scr_ent1 hq (scr_cmd1 A W cb K n sd x pb w ao cap ns h R hb hns)⟩
theorem scr_do2 (fv : Value) (h : CmdIn A W cb K n sd x pb w) (hf : CmdFv w 2 fv) (R : RdI .i64 w ao 3 cap ns) (hb : ∀ a, ao = some a → ¬ K.foot cb a.block) (hns : ∀ v ∈ ns, 0 ≤ v ∧ v ≤ 9999999) :
   Doing fv (.pointer (some ⟨pb, 0, none⟩)) (.slice ao 3 cap) w (Done A w (K.foot cb) cb sd (n + 6 + x.s.W.length) (x.cmdOp sd 2 ns)) := by
 obtain ⟨q, rfl, hq⟩ : ∃ q, fv = closV 144 q ∧ w.cell? ⟨q, 0, none⟩ = some (fnV (cmdFn 2)) := hf
 exact .inl ⟨_, q, rfl, scr_ent_act, scr_act1 A _ q _ _ w _ _ scr_ent2 hq (scr_cmd2 A W cb K n sd x pb w ao cap ns h R hb hns)⟩
theorem scr_do3 (fv : Value) (h : CmdIn A W cb K n sd x pb w) (hf : CmdFv w 3 fv) (R : RdI .i64 w ao 4 cap ns) (hb : ∀ a, ao = some a → ¬ K.foot cb a.block) (hns : ∀ v ∈ ns, 0 ≤ v ∧ v ≤ 9999999) :
   Doing fv (.pointer (some ⟨pb, 0, none⟩)) (.slice ao 4 cap) w (Done A w (K.foot cb) cb sd (n + 6 + x.s.W.length) (x.cmdOp sd 3 ns)) := by
 obtain ⟨q, rfl, hq⟩ : ∃ q, fv = closV 144 q ∧ w.cell? ⟨q, 0, none⟩ = some (fnV (cmdFn 3)) := hf
 exact .inl ⟨_, q, rfl, scr_ent_act, scr_act1 A _ q _ _ w _ _ scr_ent3 hq (scr_cmd3 A W cb K n sd x pb w ao cap ns h R hb hns)⟩
theorem scr_do4 (fv : Value) (h : CmdIn A W cb K n sd x pb w) (hf : CmdFv w 4 fv) (R : RdI .i64 w ao 0 cap ns) (hb : ∀ a, ao = some a → ¬ K.foot cb a.block) (hns : ∀ v ∈ ns, 0 ≤ v ∧ v ≤ 9999999) :
   Doing fv (.pointer (some ⟨pb, 0, none⟩)) (.slice ao 0 cap) w (Done A w (K.foot cb) cb sd (n + 6 + x.s.W.length) (x.cmdOp sd 4 ns)) := by
 obtain ⟨q, rfl, hq⟩ : ∃ q, fv = closV 144 q ∧ w.cell? ⟨q, 0, none⟩ = some (fnV (cmdFn 4)) := hf
 exact .inl ⟨_, q, rfl, scr_ent_act, scr_act1 A _ q _ _ w _ _ scr_ent4 hq (scr_cmd4 A W cb K n sd x pb w _ ns h)⟩
theorem scr_do5 (fv : Value) (h : CmdIn A W cb K n sd x pb w) (hf : CmdFv w 5 fv) (R : RdI .i64 w ao 1 cap ns) (hb : ∀ a, ao = some a → ¬ K.foot cb a.block) (hns : ∀ v ∈ ns, 0 ≤ v ∧ v ≤ 9999999) :
   Doing fv (.pointer (some ⟨pb, 0, none⟩)) (.slice ao 1 cap) w (Done A w (K.foot cb) cb sd (n + 6 + x.s.W.length) (x.cmdOp sd 5 ns)) := by
 obtain ⟨q, rfl, hq⟩ : ∃ q, fv = closV 148 q ∧ w.cell? ⟨q, 0, none⟩ = some (fnV (cmdFn 5)) := hf
 exact .inl ⟨_, q, rfl, scr_ent_tell, scr_tell1 A _ q _ _ w _ _ _ ((CS.free_amt h.inv _).i64) (fun w1 g => g.lib h) (fun w1 w2 g b => g.below b) scr_ent5 hq (scr_cmd5 A W cb K n sd x pb w ao cap ns h R hb hns)⟩
theorem scr_do6 (fv : Value) (h : CmdIn A W cb K n sd x pb w) (hf : CmdFv w 6 fv) (R : RdI .i64 w ao 1 cap ns) (hb : ∀ a, ao = some a → ¬ K.foot cb a.block) (hns : ∀ v ∈ ns, 0 ≤ v ∧ v ≤ 9999999) :
   Doing fv (.pointer (some ⟨pb, 0, none⟩)) (.slice ao 1 cap) w (Done A w (K.foot cb) cb sd (n + 6 + x.s.W.length) (x.cmdOp sd 6 ns)) := by
 obtain ⟨q, rfl, hq⟩ : ∃ q, fv = closV 148 q ∧ w.cell? ⟨q, 0, none⟩ = some (fnV (cmdFn 6)) := hf
 exact .inl ⟨_, q, rfl, scr_ent_tell, scr_tell1 A _ q _ _ w _ _ _ ((show Amt _ from ⟨(turnV_bd h.inv sd _).1, by have := (turnV_bd h.inv sd (ns.getD 0 0)).2; omega⟩).i64) (fun w1 g => g.lib h) (fun w1 w2 g b => g.below b) scr_ent6 hq (scr_cmd6 A W cb K n sd x pb w ao cap ns h R hb hns)⟩
theorem scr_do7 (fv : Value) (h : CmdIn A W cb K n sd x pb w) (hf : CmdFv w 7 fv) (R : RdI .i64 w ao 1 cap ns) (hb : ∀ a, ao = some a → ¬ K.foot cb a.block) (hns : ∀ v ∈ ns, 0 ≤ v ∧ v ≤ 9999999) :
   Doing fv (.pointer (some ⟨pb, 0, none⟩)) (.slice ao 1 cap) w (Done A w (K.foot cb) cb sd (n + 6 + x.s.W.length) (x.cmdOp sd 7 ns)) := by
 obtain rfl : fv = fnV (cmdFn 7) := hf
 exact .inr ⟨_, rfl, scr_ent7, scr_cmd7 A W cb K n sd x pb w ao cap ns h R hb (CS.bt_amt h.inv sd _).1.i64 (CS.bt_amt h.inv sd _).2.i64⟩
theorem scr_do8 (fv : Value) (h : CmdIn A W cb K n sd x pb w) (hf : CmdFv w 8 fv) (R : RdI .i64 w ao 1 cap ns) (hb : ∀ a, ao = some a → ¬ K.foot cb a.block) (hns : ∀ v ∈ ns, 0 ≤ v ∧ v ≤ 9999999) :
   Doing fv (.pointer (some ⟨pb, 0, none⟩)) (.slice ao 1 cap) w (Done A w (K.foot cb) cb sd (n + 6 + x.s.W.length) (x.cmdOp sd 8 ns)) := by
 obtain ⟨q, q2, rfl, hq, hq2⟩ : ∃ q q2, fv = closV 148 q ∧ w.cell? ⟨q, 0, none⟩ = some (closV 153 q2) ∧ w.cell? ⟨q2, 0, none⟩ = some (fnV (cmdFn 8)) := hf
 exact .inl ⟨_, q, rfl, scr_ent_tell, scr_look2 A _ q _ _ w _ q2 _ ((show Amt _ from by split; exact ⟨(h.inv.p.at_bd _).1, by have := (h.inv.p.at_bd (ns.getD 0 0)).2; have := h.inv.p.le; have := h.inv.p.most; omega⟩; exact Amt.zero).i64) (fun w1 g => g.lib h) (fun w1 w2 g b => g.below b) scr_ent8 hq hq2 (scr_cmd8 A W cb K n sd x pb w ao cap ns h R hb hns)⟩
theorem scr_do9 (fv : Value) (h : CmdIn A W cb K n sd x pb w) (hf : CmdFv w 9 fv) (R : RdI .i64 w ao 1 cap ns) (hb : ∀ a, ao = some a → ¬ K.foot cb a.block) (hns : ∀ v ∈ ns, 0 ≤ v ∧ v ≤ 9999999) :
   Doing fv (.pointer (some ⟨pb, 0, none⟩)) (.slice ao 1 cap) w (Done A w (K.foot cb) cb sd (n + 6 + x.s.W.length) (x.cmdOp sd 9 ns)) := by
 obtain ⟨q, q2, rfl, hq, hq2⟩ : ∃ q q2, fv = closV 148 q ∧ w.cell? ⟨q, 0, none⟩ = some (closV 153 q2) ∧ w.cell? ⟨q2, 0, none⟩ = some (fnV (cmdFn 9)) := hf
 exact .inl ⟨_, q, rfl, scr_ent_tell, scr_look2 A _ q _ _ w _ q2 _ ((SS.staked_amt h.inv.s _).i64) (fun w1 g => g.lib h) (fun w1 w2 g b => g.below b) scr_ent9 hq hq2 (scr_cmd9 A W cb K n sd x pb w ao cap ns h R hb hns)⟩
theorem scr_do10 (fv : Value) (h : CmdIn A W cb K n sd x pb w) (hf : CmdFv w 10 fv) (R : RdI .i64 w ao 2 cap ns) (hb : ∀ a, ao = some a → ¬ K.foot cb a.block) (hns : ∀ v ∈ ns, 0 ≤ v ∧ v ≤ 9999999) :
   Doing fv (.pointer (some ⟨pb, 0, none⟩)) (.slice ao 2 cap) w (Done A w (K.foot cb) cb sd (n + 6 + x.s.W.length) (x.cmdOp sd 10 ns)) := by
 obtain ⟨q, q2, rfl, hq, hq2⟩ : ∃ q q2, fv = closV 148 q ∧ w.cell? ⟨q, 0, none⟩ = some (closV 153 q2) ∧ w.cell? ⟨q2, 0, none⟩ = some (fnV (cmdFn 10)) := hf
 exact .inl ⟨_, q, rfl, scr_ent_tell, scr_look2 A _ q _ _ w _ q2 _ ((SS.value_amt h.inv.s _ _).i64) (fun w1 g => g.lib h) (fun w1 w2 g b => g.below b) scr_ent10 hq hq2 (scr_cmd10 A W cb K n sd x pb w ao cap ns h R hb hns)⟩
theorem scr_do11 (fv : Value) (h : CmdIn A W cb K n sd x pb w) (hf : CmdFv w 11 fv) (R : RdI .i64 w ao 3 cap ns) (hb : ∀ a, ao = some a → ¬ K.foot cb a.block) (hns : ∀ v ∈ ns, 0 ≤ v ∧ v ≤ 9999999) :
   Doing fv (.pointer (some ⟨pb, 0, none⟩)) (.slice ao 3 cap) w (Done A w (K.foot cb) cb sd (n + 6 + x.s.W.length) (x.cmdOp sd 11 ns)) := by
 obtain ⟨q, q2, rfl, hq, hq2⟩ : ∃ q q2, fv = closV 148 q ∧ w.cell? ⟨q, 0, none⟩ = some (closV 153 q2) ∧ w.cell? ⟨q2, 0, none⟩ = some (fnV (cmdFn 11)) := hf
 exact .inl ⟨_, q, rfl, scr_ent_tell, scr_look2 A _ q _ _ w _ q2 _ ((SS.waits_amt h.inv.s _ _ _).i64) (fun w1 g => g.lib h) (fun w1 w2 g b => g.below b) scr_ent11 hq hq2 (scr_cmd11 A W cb K n sd x pb w ao cap ns h R hb hns)⟩
theorem scr_do12 (fv : Value) (h : CmdIn A W cb K n sd x pb w) (hf : CmdFv w 12 fv) (R : RdI .i64 w ao 0 cap ns) (hb : ∀ a, ao = some a → ¬ K.foot cb a.block) (hns : ∀ v ∈ ns, 0 ≤ v ∧ v ≤ 9999999) :
   Doing fv (.pointer (some ⟨pb, 0, none⟩)) (.slice ao 0 cap) w (Done A w (K.foot cb) cb sd (n + 6 + x.s.W.length) (x.cmdOp sd 12 ns)) := by
 obtain ⟨q, q2, rfl, hq, hq2⟩ : ∃ q q2, fv = closV 148 q ∧ w.cell? ⟨q, 0, none⟩ = some (closV 153 q2) ∧ w.cell? ⟨q2, 0, none⟩ = some (fnV (cmdFn 12)) := hf
 exact .inl ⟨_, q, rfl, scr_ent_tell, scr_look2 A _ q _ _ w _ q2 _ ((show Amt _ from ⟨by have := h.inv.p.le; have := h.inv.p.sum_bd; omega, h.inv.p.most⟩).i64) (fun w1 g => g.lib h) (fun w1 w2 g b => g.below b) scr_ent12 hq hq2 (scr_cmd12 A W cb K n sd x pb w ao cap ns h R hb hns)⟩
theorem scr_do13 (fv : Value) (h : CmdIn A W cb K n sd x pb w) (hf : CmdFv w 13 fv) (R : RdI .i64 w ao 0 cap ns) (hb : ∀ a, ao = some a → ¬ K.foot cb a.block) (hns : ∀ v ∈ ns, 0 ≤ v ∧ v ≤ 9999999) :
   Doing fv (.pointer (some ⟨pb, 0, none⟩)) (.slice ao 0 cap) w (Done A w (K.foot cb) cb sd (n + 6 + x.s.W.length) (x.cmdOp sd 13 ns)) := by
 obtain ⟨q, q2, rfl, hq, hq2⟩ : ∃ q q2, fv = closV 148 q ∧ w.cell? ⟨q, 0, none⟩ = some (closV 153 q2) ∧ w.cell? ⟨q2, 0, none⟩ = some (fnV (cmdFn 13)) := hf
 exact .inl ⟨_, q, rfl, scr_ent_tell, scr_look2 A _ q _ _ w _ q2 _ ((show Amt _ from ⟨h.inv.b0, by have := h.inv.b1; omega⟩).i64) (fun w1 g => g.lib h) (fun w1 w2 g b => g.below b) scr_ent13 hq hq2 (scr_cmd13 A W cb K n sd x pb w ao cap ns h R hb hns)⟩
theorem scr_do14 (fv : Value) (h : CmdIn A W cb K n sd x pb w) (hf : CmdFv w 14 fv) (R : RdI .i64 w ao 0 cap ns) (hb : ∀ a, ao = some a → ¬ K.foot cb a.block) (hns : ∀ v ∈ ns, 0 ≤ v ∧ v ≤ 9999999) :
   Doing fv (.pointer (some ⟨pb, 0, none⟩)) (.slice ao 0 cap) w (Done A w (K.foot cb) cb sd (n + 6 + x.s.W.length) (x.cmdOp sd 14 ns)) := by
 obtain rfl : fv = fnV (cmdFn 14) := hf
 exact .inr ⟨_, rfl, scr_ent14, scr_cmd14 A W cb K n sd x pb w _ ns h⟩
theorem scr_does (j : Nat) (hj : j < 15) (fv : Value) (h : CmdIn A W cb K n sd x pb w) (hf : CmdFv w j fv) (hl : ns.length = (cmdForm j).length) (R : RdI .i64 w ao ns.length cap ns) (hb : ∀ a, ao = some a → ¬ K.foot cb a.block) (hns : ∀ v ∈ ns, 0 ≤ v ∧ v ≤ 9999999) :
   Doing fv (.pointer (some ⟨pb, 0, none⟩)) (.slice ao ns.length cap) w (Done A w (K.foot cb) cb sd (n + 6 + x.s.W.length) (x.cmdOp sd j ns)) := by
 match j, hj with
 | 0, _ => have e : ns.length = 3 := hl; rw [e] at R ⊢; exact scr_do0 A W cb K n sd x pb w ao cap ns fv h hf R hb hns
 | 1, _ => have e : ns.length = 3 := hl; rw [e] at R ⊢; exact scr_do1 A W cb K n sd x pb w ao cap ns fv h hf R hb hns
 | 2, _ => have e : ns.length = 3 := hl; rw [e] at R ⊢; exact scr_do2 A W cb K n sd x pb w ao cap ns fv h hf R hb hns
 | 3, _ => have e : ns.length = 4 := hl; rw [e] at R ⊢; exact scr_do3 A W cb K n sd x pb w ao cap ns fv h hf R hb hns
 | 4, _ => have e : ns.length = 0 := hl; rw [e] at R ⊢; exact scr_do4 A W cb K n sd x pb w ao cap ns fv h hf R hb hns
 | 5, _ => have e : ns.length = 1 := hl; rw [e] at R ⊢; exact scr_do5 A W cb K n sd x pb w ao cap ns fv h hf R hb hns
 | 6, _ => have e : ns.length = 1 := hl; rw [e] at R ⊢; exact scr_do6 A W cb K n sd x pb w ao cap ns fv h hf R hb hns
 | 7, _ => have e : ns.length = 1 := hl; rw [e] at R ⊢; exact scr_do7 A W cb K n sd x pb w ao cap ns fv h hf R hb hns
 | 8, _ => have e : ns.length = 1 := hl; rw [e] at R ⊢; exact scr_do8 A W cb K n sd x pb w ao cap ns fv h hf R hb hns
 | 9, _ => have e : ns.length = 1 := hl; rw [e] at R ⊢; exact scr_do9 A W cb K n sd x pb w ao cap ns fv h hf R hb hns
 | 10, _ => have e : ns.length = 2 := hl; rw [e] at R ⊢; exact scr_do10 A W cb K n sd x pb w ao cap ns fv h hf R hb hns
 | 11, _ => have e : ns.length = 3 := hl; rw [e] at R ⊢; exact scr_do11 A W cb K n sd x pb w ao cap ns fv h hf R hb hns
 | 12, _ => have e : ns.length = 0 := hl; rw [e] at R ⊢; exact scr_do12 A W cb K n sd x pb w ao cap ns fv h hf R hb hns
 | 13, _ => have e : ns.length = 0 := hl; rw [e] at R ⊢; exact scr_do13 A W cb K n sd x pb w ao cap ns fv h hf R hb hns
 | 14, _ => have e : ns.length = 0 := hl; rw [e] at R ⊢; exact scr_do14 A W cb K n sd x pb w ao cap ns fv h hf R hb hns
end
end Go.Proofs.YtajnfkmkombajaaGreatDoor
namespace Go.Proofs.YtajnfkmkombajaaGreatDoor
open Go.RowKit Go.Maps
structure PRun (w0 : World) (F : Nat → Prop) (cb : Nat) (K : ChL) (n sd : Nat) (x : CS) (out : Value) (ans : List Int) (ao : Option Addr) (len cap : Nat) (zs : List Int) (w : World) : Prop where
 go : ChGo w0 F cb K n sd x w
 own : w.ownsRow w0.heap.size 3 1 out ans.length (ans.map (Value.int .i64))
 sep : ∀ g, out.ownBlock = some g → ¬ K.foot cb g
 rd : RdI .i64 w ao len cap zs
 rds : ∀ a, ao = some a → a.block < w0.heap.size ∧ ¬ K.foot cb a.block
section
variable {w0 w w' : World} {F : Nat → Prop} {cb n m sd len cap : Nat} {K K' : ChL} {x y : CS} {out : Value} {ans : List Int} {ao : Option Addr} {zs : List Int}
theorem PRun.size (h : PRun w0 F cb K n sd x out ans ao len cap zs w) : w0.heap.size ≤ w.heap.size := h.go.keep.size
theorem PRun.step (h : PRun w0 F cb K n sd x out ans ao len cap zs w) (k : ChGo w (K.foot cb) cb K' m sd y w') : PRun w0 F cb K' m sd y out ans ao len cap zs w' :=
 ⟨h.go.step k.keep (fun _ hb => hb) k.ch k.foot, ownsRow_other h.own (fun g hg => k.keep.block g (h.own.lt g hg).2 (h.sep g hg)), fun g hg hf => by
   rcases k.foot g hf with e | e
   · exact h.sep g hg e
   · have := (h.own.lt g hg).2; omega,
  h.rd.keepX k.keep (fun a ha => (h.rds a ha).2), fun a ha => ⟨(h.rds a ha).1, fun hf => by
   rcases k.foot _ hf with e | e
   · exact (h.rds a ha).2 e
   · have := (h.rds a ha).1; have := h.size; omega⟩⟩
theorem PRun.next (h : PRun w0 F cb K n sd x out ans ao len cap zs w) (k : Below w.heap.size w w') : PRun w0 F cb K n sd x out ans ao len cap zs w' :=
 ⟨h.go.below k, ownsRow_other h.own (fun g hg => k.block g (h.own.lt g hg).2), h.sep, h.rd.below k, h.rds⟩
theorem PRun.append {g cp : Nat} {c : Int} {ob : Obj} {w1 : World} (h : PRun w0 F cb K n sd x out ans ao len cap zs w) (hg : (w.alloc ob).grownBy w1 out.ownBlock) (hor : out.ownBlock = some g ∨ g = w.heap.size + 1)
   (ho : w1.ownsRow w0.heap.size 3 1 (.slice (some ⟨g, 0, none⟩) (ans.length + 1) cp) (ans.length + 1) (ans.map (Value.int .i64) ++ [.int .i64 c])) :
   PRun w0 F cb K n sd x (.slice (some ⟨g, 0, none⟩) (ans.length + 1) cp) (ans ++ [c]) ao len cap zs w1 := by
 have K1 : Keep (fun b => out.ownBlock = some b) w w1 := ((Keep.refl _ _).alloc ob).grown hg (fun k hk => .inl hk)
 refine ⟨⟨h.go.keep.andThen K1 (fun b hb => .inr (h.own.lt b hb).1), h.go.ch.keep K1 (fun b hb hf => h.sep b hf hb), fun b hb => (h.go.foot b hb).imp id (fun e => ⟨e.1, Nat.lt_of_lt_of_le e.2 K1.size⟩), h.go.Flt⟩, ?_, fun g' hg' hf => ?_, h.rd.keepX K1 (fun a ha hb => ?_), h.rds⟩
 · rw [List.length_append, List.map_append]; exact ho
 · have : g' = g := by simpa [Value.ownBlock] using hg'.symm
   subst this
   rcases hor with e | e
   · exact h.sep g' e hf
   · have := h.go.ch.footlt g' hf; omega
 · have := (h.rds a ha).1; have := (h.own.lt _ hb).1; omega
end
end Go.Proofs.YtajnfkmkombajaaGreatDoor
