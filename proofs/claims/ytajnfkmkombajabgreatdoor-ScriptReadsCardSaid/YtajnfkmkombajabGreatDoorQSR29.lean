/-
  Contract of the document's SameTexts, at the same texts; the closed fact hello.
  A statement's command lines: the form of a word, decimal texts, the line.
  Scripts: too many lines.
  Plain: what a line of a command reads as; no answer is empty; a line without a command's word. No program in sight.
  Contracts of the laws' coded and faulted (package bakehouselaw3).
  ScriptReads: the contracts that its walk goes by.
  Contract of the laws' errorText.
  A []string argument, opened: it reads as texts.
  From a row's cell on listed variables, and the world's shape, to what the scripts' walks ask.
-/
import Derived.Test.YtajnfkmkombajabGreatDoorQSR28
import Derived.Deep.QuietTactic
import Derived.BigQuiet
import Derived.Laws.IdiomStrings
import Derived.Test.YtajnfkmkombajabGreatDoorQSR27
import Derived.Test.YtajnfkmkombajabGreatDoorQSR02
import Derived.Test.YtajnfkmkombajabGreatDoorProg
import Derived.Test.YtajnfkmkombajabGreatDoorQSR01
import Derived.Test.YtajnfkmkombajabGreatDoorQSR03
import Derived.Test.YtajnfkmkombajabGreatDoorQSR23
import Derived.Lib.LaidTab
import Derived.Shelf.Vars
import Derived.Handed
set_option linter.unusedVariables false
set_option linter.unusedSimpArgs false
set_option linter.unusedVariables false
namespace Go.Proofs.YtajnfkmkombajabGreatDoor
open Go Go.RowKit Go.Maps

theorem RdR.own_str {w : World} {base e : Nat} {v : Value} {n : Nat} {l : List ByteArray} (h : w.ownsRow base e 1 v n (l.map Value.string)) : ∃ ao cap, v = .slice ao n cap ∧ RdR strE 1 w ao n cap l := by
  obtain ⟨h1, h2⟩ := h
  have hl : l.length = n := by simpa using h1
  rcases h2 with ⟨hv, hn⟩ | ⟨g, cap', cur, hv, hg, hh, hnc, hcm, hcs, ht⟩
  · subst hn
    have hl0 : l = [] := List.eq_nil_of_length_eq_zero hl
    subst hl0
    exact ⟨none, 0, hv, RdR.nil _ _ _⟩
  · refine ⟨_, cap', hv, hl, hnc, hcm, fun h => (by cases h), fun i x hi => ⟨g, 0, rfl, lt_of_block hh, fun j hj => ?_⟩⟩
    obtain rfl : j = 0 := by omega
    have hi' : i < n := by
      rcases Nat.lt_or_ge i l.length with q | q
      · omega
      · rw [List.getElem?_eq_none q] at hi; cases hi
    have h3 : (cur.toList.take (n * 1))[i]? = some (.string x) := by rw [ht, List.getElem?_map, hi]; rfl
    rw [List.getElem?_take] at h3
    split at h3
    · simp only [World.cell?, hh, strE, List.getElem?_cons_zero]
      simpa using h3
    · cases h3
theorem RdR.take {α : Type} {enc : α → List Value} {C : Nat} {w : World} {ao : Option Addr} {len cap : Nat} {l : List α} (R : RdR enc C w ao len cap l) {k : Nat} (hk : k ≤ len) : RdR enc C w ao k cap (l.take k) :=
  ⟨by rw [List.length_take, R.size]; omega, Nat.le_trans hk R.lc, R.cm, R.nul, fun i x hi => R.cells i x (by
    rw [List.getElem?_take] at hi
    split at hi
    · exact hi
    · cases hi)⟩

set_option maxHeartbeats 400000 in
theorem ref_SameTexts (ax ay : Option Addr) (n cx cy : Nat) (xs : List ByteArray) (w : World) (RX : RdR strE 1 w ax n cx xs) (RY : RdR strE 1 w ay n cy xs) :
    Calls Tryz.prog 9 #[.slice ax n cx, .slice ay n cy] w fun e w' => e = .returned (.bool true) ∧ Dr w w' := by
  have hm : n ≤ 9223372036854775807 := by have := RX.lc; have := RX.cm; unfold maxLen at *; omega
  have HX := Lib.hid RX; have HY := Lib.hid RY
  have hne : ((n : Int) != (n : Int)) = false := bne_self_eq_false _
  clear RX RY
  go_enter Tryz.func9, Tryz.ntmps9
  go_wp2_with fail
  go_loopw [5] (fun i wr => ∃ k : Nat, k ≤ n ∧ i = .int .i64 k ∧ Dr w wr) (fun i _ => n - (intOf i).toNat)
  case atStart => exact ⟨0, Nat.zero_le _, rfl, Dr.refl _⟩
  case round =>
    obtain ⟨k, hk, rfl, d, rfl⟩ := hrel
    by_cases hlt : k < n
    · obtain ⟨x, hx⟩ : ∃ x, xs[k]? = some x := ⟨_, List.getElem?_eq_getElem (by have := HX.out.size; omega)⟩
      obtain ⟨b, off, ha, hb, hc⟩ := HX.out.cells k x hx
      obtain ⟨b', off', ha', hb', hc'⟩ := HY.out.cells k x hx
      have c0 := hc 0 (by decide)
      have c1 := hc' 0 (by decide)
      simp only [strE, List.getElem?_cons_zero, Nat.add_zero, Nat.mul_one] at c0 c1
      have Ha := Lib.hid ha; have Ha' := Lib.hid ha'
      clear ha ha' hc hc' hx hb hb'
      have h1 := Ha.out; subst h1
      have h2 := Ha'.out; subst h2
      have hxx : (x != x) = false := by show (!(x == x)) = false; rw [(MapKept.bytes_beq x x).2 rfl]; rfl
      have i0 : (0 : Int) ≤ (k : Int) := by omega
      have i1 : (k : Int) < (n : Int) := by omega
      go_wp2_with fail
      go_quiet (fail)
      go_wp2_with fail
      go_roundw
      case rel => exact ⟨k + 1, by omega, by go_num, d + nq, by simp [World.drewN]⟩
      case measure => simp [intOf]; omega
    · go_wp2
      go_ret
      exact ⟨rfl, d, rfl⟩

set_option maxRecDepth 8000 in
set_option maxHeartbeats 1000000 in
theorem law_hello (A : Nat → Addr) (w : World) (h : Lw A w) : Calls Tryz.prog 4 #[] w fun e w' => e = .returned (.bool true) ∧ Below w.heap.size w w' := by
  have HL := Lib.hid h
  have HF := Lib.hid hello_facts
  have HS := Lib.hid (show ∀ s ∈ helloLines, s.size ≤ 100000 by decide)
  clear h
  go_enter Tryz.func4, Tryz.ntmps4
  go_wp2_with fail
  have B0 := Lib.hid (fun ob => (Below.refl w.heap.size w).alloc (Nat.le_refl _) ob)
  refine (scr_Run A 3 (by decide) _ 5 5 helloLines _ (HL.out.below (B0.out _)) (RdR.str_new w 9 helloLines (by decide)) HS.out (by decide)).mono ?_
  rintro e w1 ⟨v, rfl, b1, o1⟩
  obtain ⟨ao, cap, rfl, R1⟩ := RdR.own_str o1
  have HB := Lib.hid (btrans (B0.out _) b1)
  have HR := Lib.hid R1
  clear b1 o1 R1
  rw [ev_nil]
  go_wp2_with fail
  have B2 := Lib.hid (fun ob => HB.out.alloc HB.out.size ob)
  refine (ref_SameTexts ao _ 5 cap 5 helloTold _ ((HF.out ▸ HR.out).below ((Below.refl _ _).alloc (Nat.le_refl _) _)) (RdR.str_new w1 9 helloTold (by decide))).mono ?_
  rintro e w2 ⟨rfl, k, rfl⟩
  go_wp2_with fail
  go_ret
  exact ⟨rfl, (B2.out _).drewN k⟩
end Go.Proofs.YtajnfkmkombajabGreatDoor
namespace Go.Proofs.YtajnfkmkombajabGreatDoor
open Go Go.RowKit Go.Maps

/-- the form of a word, empty where it is no command's -/
def formT (c : Option Nat) : List UInt8 := match c with
  | some i => cmdForm i
  | none => []
set_option maxHeartbeats 1000000 in
theorem law_formOf (s : ByteArray) (w : World) : Calls Tryz.prog 7 #[.string s] w fun e w' => e = .returned (.tuple #[.string (bstr (formT (cmdOf s.data.toList))), .bool (cmdOf s.data.toList).isSome]) ∧ w = w' := by
  cases hc : cmdOf s.data.toList with
  | none =>
    have hn := cmdOf_none hc
    have n0 : (s.toList == [112, 97, 121]) = false := by rw [ByteArray.toList_eq, beq_eq_false_iff_ne]; exact hn 0 (by decide)
    have n1 : (s.toList == [115, 116, 97, 107, 101]) = false := by rw [ByteArray.toList_eq, beq_eq_false_iff_ne]; exact hn 1 (by decide)
    have n2 : (s.toList == [117, 110, 115, 116, 97, 107, 101]) = false := by rw [ByteArray.toList_eq, beq_eq_false_iff_ne]; exact hn 2 (by decide)
    have n3 : (s.toList == [97, 99, 99, 117, 115, 101]) = false := by rw [ByteArray.toList_eq, beq_eq_false_iff_ne]; exact hn 3 (by decide)
    have n4 : (s.toList == [99, 121, 99, 108, 101]) = false := by rw [ByteArray.toList_eq, beq_eq_false_iff_ne]; exact hn 4 (by decide)
    have n5 : (s.toList == [102, 114, 101, 101]) = false := by rw [ByteArray.toList_eq, beq_eq_false_iff_ne]; exact hn 5 (by decide)
    have n6 : (s.toList == [116, 117, 114, 110]) = false := by rw [ByteArray.toList_eq, beq_eq_false_iff_ne]; exact hn 6 (by decide)
    have n7 : (s.toList == [98, 97, 107, 101]) = false := by rw [ByteArray.toList_eq, beq_eq_false_iff_ne]; exact hn 7 (by decide)
    have n8 : (s.toList == [104, 97, 115]) = false := by rw [ByteArray.toList_eq, beq_eq_false_iff_ne]; exact hn 8 (by decide)
    have n9 : (s.toList == [115, 116, 97, 107, 101, 100]) = false := by rw [ByteArray.toList_eq, beq_eq_false_iff_ne]; exact hn 9 (by decide)
    have n10 : (s.toList == [118, 97, 108, 117, 101]) = false := by rw [ByteArray.toList_eq, beq_eq_false_iff_ne]; exact hn 10 (by decide)
    have n11 : (s.toList == [119, 97, 105, 116, 115]) = false := by rw [ByteArray.toList_eq, beq_eq_false_iff_ne]; exact hn 11 (by decide)
    have n12 : (s.toList == [115, 117, 112, 112, 108, 121]) = false := by rw [ByteArray.toList_eq, beq_eq_false_iff_ne]; exact hn 12 (by decide)
    have n13 : (s.toList == [98, 111, 110, 117, 115]) = false := by rw [ByteArray.toList_eq, beq_eq_false_iff_ne]; exact hn 13 (by decide)
    have n14 : (s.toList == [97, 116]) = false := by rw [ByteArray.toList_eq, beq_eq_false_iff_ne]; exact hn 14 (by decide)
    clear hn hc
    go_enter Tryz.func7, Tryz.ntmps7
    go_wp2_with fail
    go_ret2
    exact ⟨rfl, rfl⟩
  | some i =>
    obtain ⟨hi, hw⟩ := cmdOf_some hc
    have hs : s.toList = cmdWord i := by rw [ByteArray.toList_eq]; exact hw.symm
    clear hw hc
    have hz : i = 0 ∨ i = 1 ∨ i = 2 ∨ i = 3 ∨ i = 4 ∨ i = 5 ∨ i = 6 ∨ i = 7 ∨ i = 8 ∨ i = 9 ∨ i = 10 ∨ i = 11 ∨ i = 12 ∨ i = 13 ∨ i = 14 := by omega
    rcases hz with rfl | rfl | rfl | rfl | rfl | rfl | rfl | rfl | rfl | rfl | rfl | rfl | rfl | rfl | rfl
    · have h1 : s.toList = [112, 97, 121] := hs
      clear hs hi
      go_enter Tryz.func7, Tryz.ntmps7
      go_wp2_with fail
      go_ret2
      exact ⟨rfl, rfl⟩
    · have h1 : s.toList = [115, 116, 97, 107, 101] := hs
      clear hs hi
      go_enter Tryz.func7, Tryz.ntmps7
      go_wp2_with fail
      go_ret2
      exact ⟨rfl, rfl⟩
    · have h1 : s.toList = [117, 110, 115, 116, 97, 107, 101] := hs
      clear hs hi
      go_enter Tryz.func7, Tryz.ntmps7
      go_wp2_with fail
      go_ret2
      exact ⟨rfl, rfl⟩
    · have h1 : s.toList = [97, 99, 99, 117, 115, 101] := hs
      clear hs hi
      go_enter Tryz.func7, Tryz.ntmps7
      go_wp2_with fail
      go_ret2
      exact ⟨rfl, rfl⟩
    · have h1 : s.toList = [99, 121, 99, 108, 101] := hs
      clear hs hi
      go_enter Tryz.func7, Tryz.ntmps7
      go_wp2_with fail
      go_ret2
      exact ⟨rfl, rfl⟩
    · have h1 : s.toList = [102, 114, 101, 101] := hs
      clear hs hi
      go_enter Tryz.func7, Tryz.ntmps7
      go_wp2_with fail
      go_ret2
      exact ⟨rfl, rfl⟩
    · have h1 : s.toList = [116, 117, 114, 110] := hs
      clear hs hi
      go_enter Tryz.func7, Tryz.ntmps7
      go_wp2_with fail
      go_ret2
      exact ⟨rfl, rfl⟩
    · have h1 : s.toList = [98, 97, 107, 101] := hs
      clear hs hi
      go_enter Tryz.func7, Tryz.ntmps7
      go_wp2_with fail
      go_ret2
      exact ⟨rfl, rfl⟩
    · have h1 : s.toList = [104, 97, 115] := hs
      clear hs hi
      go_enter Tryz.func7, Tryz.ntmps7
      go_wp2_with fail
      go_ret2
      exact ⟨rfl, rfl⟩
    · have h1 : s.toList = [115, 116, 97, 107, 101, 100] := hs
      clear hs hi
      go_enter Tryz.func7, Tryz.ntmps7
      go_wp2_with fail
      go_ret2
      exact ⟨rfl, rfl⟩
    · have h1 : s.toList = [118, 97, 108, 117, 101] := hs
      clear hs hi
      go_enter Tryz.func7, Tryz.ntmps7
      go_wp2_with fail
      go_ret2
      exact ⟨rfl, rfl⟩
    · have h1 : s.toList = [119, 97, 105, 116, 115] := hs
      clear hs hi
      go_enter Tryz.func7, Tryz.ntmps7
      go_wp2_with fail
      go_ret2
      exact ⟨rfl, rfl⟩
    · have h1 : s.toList = [115, 117, 112, 112, 108, 121] := hs
      clear hs hi
      go_enter Tryz.func7, Tryz.ntmps7
      go_wp2_with fail
      go_ret2
      exact ⟨rfl, rfl⟩
    · have h1 : s.toList = [98, 111, 110, 117, 115] := hs
      clear hs hi
      go_enter Tryz.func7, Tryz.ntmps7
      go_wp2_with fail
      go_ret2
      exact ⟨rfl, rfl⟩
    · have h1 : s.toList = [97, 116] := hs
      clear hs hi
      go_enter Tryz.func7, Tryz.ntmps7
      go_wp2_with fail
      go_ret2
      exact ⟨rfl, rfl⟩

theorem str_index (fl : List UInt8) (hf : fl.length ≤ 100) (j : Nat) (c : UInt8) (hc : fl[j]? = some c) (wx : World) : (Instr.index 9 (.string (bstr fl)) (.int .i64 (j : Int))).run Tryz.prog wx = .ok (.int .u8 (c.toNat : Int)) wx := by
  have hj : j < fl.length := by
    rcases Nat.lt_or_ge j fl.length with q | q
    · exact q
    · rw [List.getElem?_eq_none q] at hc; cases hc
  have hsz : (bstr fl).size = fl.length := by simp [bstr, ByteArray.size]
  have hjs : j < (bstr fl).size := by omega
  rw [run_index_string _ _ _ _ _ Tryz.underlying9, dif_pos (by omega)]
  have : (bstr fl)[(j : Int).toNat]'(by simpa using hjs) = c := by
    rw [List.getElem?_eq_getElem hj] at hc
    simpa [bstr, ByteArray.getElem_eq_getElem_data] using hc
  rw [this]

theorem bstr_size (l : List UInt8) : (bstr l).size = l.length := by simp [bstr, ByteArray.size]
theorem bstr_append (a b : List UInt8) : bstr a ++ bstr b = bstr (a ++ b) := by
  apply Go.WideShapes.bytes_inj
  simp [bstr]
theorem itoa_nonneg (z : Int) (h : 0 ≤ z) : itoaB z = bstr (Lib.decDigits z.toNat) := by
  unfold itoaB bstr Lib.itoa
  rw [if_neg (by omega)]

end Go.Proofs.YtajnfkmkombajabGreatDoor
namespace Go.Proofs.YtajnfkmkombajabGreatDoor
open Go Go.RowKit Go.Maps

set_option maxRecDepth 8000 in
theorem scr_Run_over (A : Nat → Addr) (sv : Int) (ao : Option Addr) (len cap : Nat) (w : World) (h : Lw A w) (hl : 100 < len) :
    Calls Tryz.prog 5 #[.int .u64 sv, .slice ao len cap] w fun e w' => e = .returned (.tuple #[.slice none 0 0, ev A 2]) ∧ Below w.heap.size w w' := by
  have h2 := h.sents.errs.cell 2 (by decide)
  have d1 : decide ((100 : Int) < (len : Int)) = true := decide_eq_true (by omega)
  have d2 : decide (100 < len) = true := decide_eq_true hl
  rw [ev_some A (by decide)] at h2 ⊢
  clear h hl
  simp only [gE] at h2
  go_enter Tryz.func5, Tryz.ntmps5
  go_wp2_with fail
  go_quiet (fail)
  go_wp2_with fail
  go_ret2
  exact ⟨rfl, (Below.refl _ _).drewN _⟩
end Go.Proofs.YtajnfkmkombajabGreatDoor
namespace Go.Proofs.YtajnfkmkombajabGreatDoor
open Go Go.RowKit

theorem digits_nosp (u : Nat) : (32 : UInt8) ∉ Lib.decDigits u := fun h => by
  have := (digits_mem u 32 h).1
  exact absurd this (by decide)
/-- a word and numbers, with a space ahead of each number -/
def lineL (wd : List UInt8) (ns : List Nat) : List UInt8 := ns.foldl (fun s n => s ++ 32 :: Lib.decDigits n) wd
theorem lineL_join : ∀ (ns : List Nat) (wd : List (List UInt8)), wd ≠ [] → lineL (joinSp wd) ns = joinSp (wd ++ ns.map Lib.decDigits)
  | [], wd, _ => by simp [lineL]
  | n :: ns, wd, h => by
    have := lineL_join ns (wd ++ [Lib.decDigits n]) (by simp)
    rw [joinSp_snoc wd _ h] at this
    show lineL (joinSp wd ++ 32 :: Lib.decDigits n) ns = _
    rw [this, List.append_assoc]
    rfl
theorem splitSp_lineL (wd : List UInt8) (ns : List Nat) (h : (32 : UInt8) ∉ wd) : splitSp (lineL wd ns) = wd :: ns.map Lib.decDigits := by
  rw [show lineL wd ns = lineL (joinSp [wd]) ns from rfl, lineL_join ns [wd] (by simp)]
  rw [splitSp_join _ (by simp) (fun x hx => by
    rcases List.mem_append.1 hx with q | q
    · obtain rfl := List.mem_singleton.1 q; exact h
    · obtain ⟨u, -, rfl⟩ := List.mem_map.1 q; exact digits_nosp u)]
  rfl
theorem cmdWord_nosp {w : List UInt8} {i : Nat} (h : cmdOf w = some i) : (32 : UInt8) ∉ w := by
  unfold cmdOf at h
  obtain ⟨hi, hp, -⟩ := List.findIdx?_eq_some_iff_getElem.1 h
  have he : cmdWords[i] = w := by simpa using hp
  have hm : w ∈ cmdWords := by rw [← he]; exact List.getElem_mem hi
  have : ∀ x ∈ cmdWords, (32 : UInt8) ∉ x := by decide
  exact this w hm
/-- a command's own line does what the command does -/
theorem lineOp_lineL (x : CS) (sd : Nat) {wd : List UInt8} {ns : List Nat} {i : Nat} (hw : cmdOf wd = some i) (hl : (cmdForm i).length = ns.length) (hp : ∀ p ∈ (cmdForm i).zip ns, p.2 ≤ 9999999 ∧ (p.1 = 100 → p.2 ≤ 9)) :
    x.lineOp sd (bstr (lineL wd ns)) = x.cmdOp sd i (ns.map (fun u : Nat => (u : Int))) :=
  lineOp_of x sd (splitSp_lineL wd ns (cmdWord_nosp hw)) hw (readB_digits hl hp)

/-! ### no answer is empty -/
theorem itoaB_ne (n : Int) : (itoaB n).size ≠ 0 := by
  have h : (itoaB n).size = (Lib.itoa n).length := by simp [itoaB, ByteArray.size]
  rw [h]
  unfold Lib.itoa
  split
  · simp
  · exact fun e => digits_ne _ (List.eq_nil_of_length_eq_zero e)
theorem errB_ne (c : Nat) : (errB c).size ≠ 0 := by
  unfold errB bstr errHead
  simp [ByteArray.size]
theorem CS.cmd_ne (x : CS) (sd : Nat) (i : Nat) (n : List Int) : (x.cmdOp sd i n).1.size ≠ 0 := by
  have h2 : ∀ (a b : Int), (itoaB a ++ spB ++ itoaB b).size ≠ 0 := fun a b => by
    rw [ByteArray.size_append, ByteArray.size_append]
    have := itoaB_ne a
    omega
  have ho : okB.size ≠ 0 := by decide
  unfold CS.cmdOp
  split
  all_goals first | exact ho | exact itoaB_ne _ | exact h2 _ _
theorem CS.lineA_ne (x : CS) (sd : Nat) (s : ByteArray) : (x.lineA sd s).size ≠ 0 := by
  have key : ∀ r : ByteArray × Nat × CS, (r.2.1 = 0 → r.1.size ≠ 0) → (if r.2.1 = 0 then r.1 else errB r.2.1).size ≠ 0 := fun r hr => by
    split
    · next h => exact hr h
    · exact errB_ne _
  refine key (x.lineOp sd s) ?_
  unfold CS.lineOp
  cases cmdOf ((splitL s).headD ByteArray.empty).data.toList with
  | none => intro h; cases h
  | some i =>
    cases hn : readB (cmdForm i) ((splitL s).drop 1) with
    | none => simp only [hn]; intro h; cases h
    | some n => simp only [hn]; exact fun _ => CS.cmd_ne x sd i n
/-- a line whose first word is no command's -/
theorem CS.lineA_none (x : CS) (sd : Nat) (s : ByteArray) (h : cmdOf (s.data.toList.takeWhile (· != 32)) = none) : x.lineA sd s = errB 1 := by
  have e : ((splitL s).headD ByteArray.empty).data.toList = s.data.toList.takeWhile (· != 32) := by
    have h1 : splitL s = (splitSp s.data.toList).map bstr := by
      have := splitL_eq s.data.toList
      rwa [show bstr s.data.toList = s from bstr_toList s] at this
    rw [h1, ← splitSp_head]
    cases hs : splitSp s.data.toList with
    | nil => exact absurd hs (splitSp_ne _)
    | cons a l => simp [bstr]
  unfold CS.lineA CS.lineOp
  rw [e, h]
  rfl
theorem CS.scriptA_at (sd : Nat) : ∀ (l : List ByteArray) (x : CS) (i : Nat) (s : ByteArray), l[i]? = some s → ∃ y : CS, (CS.scriptA sd l x)[i]? = some (y.lineA sd s)
  | [], _, _, _, h => by simp at h
  | a :: l, x, 0, s, h => by
    simp only [List.getElem?_cons_zero, Option.some.injEq] at h
    subst h
    exact ⟨x, rfl⟩
  | a :: l, x, i + 1, s, h => by
    simp only [List.getElem?_cons_succ] at h
    exact CS.scriptA_at sd l _ i s h
end Go.Proofs.YtajnfkmkombajabGreatDoor
namespace Go.Proofs.YtajnfkmkombajabGreatDoor
open Go.RowKit

theorem law3_coded (A : Nat → Addr) (c : Nat) (hc : c ≤ 10) (w : World) (hS : Sents A w) :
    Calls Tryz.prog 6 #[ev A c, .int .i64 c] w fun e w' => e = .returned (.bool true) ∧ Below w.heap.size w w' := by
  have HS := Lib.hid hS; clear hS
  by_cases h0 : c = 0
  · subst h0
    simp only [ev_nil, Int.natCast_zero]
    go_enter Tryz.func6, Tryz.ntmps6
    go_wp2_with fail
    refine (code_nil _).mono ?_
    rintro e w' ⟨rfl, hb⟩
    go_wp2
    go_ret
    exact ⟨rfl, hb⟩
  · have he := ev_some A h0
    rw [he]
    have hcc : ((c : Int) == (c : Int)) = true := beq_self_eq_true _
    clear he
    go_enter Tryz.func6, Tryz.ntmps6
    go_wp2_with fail
    refine (code_bare A c (by omega) hc _ HS.out).mono ?_
    rintro e w' ⟨rfl, hb⟩
    go_wp2
    go_ret
    exact ⟨rfl, hb⟩
end Go.Proofs.YtajnfkmkombajabGreatDoor
namespace Go.Proofs.YtajnfkmkombajabGreatDoor
open Go Go.RowKit Go.Maps

theorem takeWhile_at : ∀ (l : List UInt8) (k : Nat), (∀ j, j < k → l[j]? ≠ some 32) → k = l.length ∨ l[k]? = some 32 → k ≤ l.length → l.takeWhile (· != 32) = l.take k
  | [], k, _, _, hk => by
    obtain rfl : k = 0 := by simpa using hk
    rfl
  | b :: l, 0, _, h, _ => by
    rcases h with h | h
    · simp at h
    · simp only [List.getElem?_cons_zero, Option.some.injEq] at h
      subst h
      simp
  | b :: l, k + 1, hn, h, hk => by
    have hb : b ≠ 32 := fun e => hn 0 (by omega) (by rw [e]; rfl)
    have ih := takeWhile_at l k (fun j hj => by have := hn (j + 1) (by omega); simpa using this) (by simpa using h) (by simpa using hk)
    rw [List.takeWhile_cons, if_pos (by simpa using hb), ih]
    rfl
/-- what is asked of an answer t to a line s -/
def Told (s t : ByteArray) : Prop := t.size ≠ 0 ∧ (cmdOf (s.data.toList.takeWhile (· != 32)) = none → t = errB 1)
theorem reads_Run (A : Nat → Addr) (sd : Nat) (hs : sd < 18446744073709551616) (ao : Option Addr) (len cap : Nat) (ls : List ByteArray) (w : World) (h : Lw A w) (R : RdR strE 1 w ao len cap ls) (hls : ∀ s ∈ ls, s.size ≤ 100) (hl : len ≤ 100) :
    Calls Tryz.prog 5 #[.int .u64 sd, .slice ao len cap] w fun e w' => ∃ (v : Value) (an : List ByteArray), e = .returned (.tuple #[v, .nilIface]) ∧ Below w.heap.size w w' ∧ w'.ownsRow w.heap.size 9 1 v len (an.map Value.string) ∧ an.length = len ∧ ∀ (i : Nat) (s : ByteArray), ls[i]? = some s → ∃ t, an[i]? = some t ∧ Told s t := by
  refine (scr_Run A sd hs ao len cap ls w h R (fun s hs => Nat.le_trans (hls s hs) (by decide)) hl).mono ?_
  rintro e w' ⟨v, rfl, b, o⟩
  refine ⟨v, _, by rw [ev_nil], b, o, by rw [CS.scriptA_len, R.size], fun i s hi => ?_⟩
  obtain ⟨y, hy⟩ := CS.scriptA_at sd ls CS.new i s hi
  exact ⟨_, hy, CS.lineA_ne y sd s, fun hc => CS.lineA_none y sd s hc⟩
theorem reads_over (A : Nat → Addr) (sd : Nat) (ao : Option Addr) (len cap : Nat) (w : World) (h : Lw A w) (hl : 100 < len) :
    Calls Tryz.prog 5 #[.int .u64 sd, .slice ao len cap] w fun e w' => e = .returned (.tuple #[.slice none 0 0, ev A 2]) ∧ Below w.heap.size w w' := scr_Run_over A sd ao len cap w h hl
theorem reads_coded (A : Nat → Addr) (w : World) (h : Lw A w) : Calls Tryz.prog 6 #[ev A 2, .int .i64 2] w fun e w' => e = .returned (.bool true) ∧ Below w.heap.size w w' := law3_coded A 2 (by decide) w h.sents
end Go.Proofs.YtajnfkmkombajabGreatDoor
namespace Go.Proofs.YtajnfkmkombajabGreatDoor
open Go Go.RowKit Go.Maps

set_option maxHeartbeats 1000000 in
theorem law3_errorText (c : Nat) (h1 : 1 ≤ c) (h10 : c ≤ 10) (w : World) : Calls Tryz.prog 8 #[.int .i64 c] w fun e w' => e = .returned (.string (errB c)) ∧ Below w.heap.size w w' := by
  have HB := Lib.hid (fun ob => (Below.refl w.heap.size w).alloc (Nat.le_refl _) ob)
  have hz : c = 1 ∨ c = 2 ∨ c = 3 ∨ c = 4 ∨ c = 5 ∨ c = 6 ∨ c = 7 ∨ c = 8 ∨ c = 9 ∨ c = 10 := by omega
  clear h1 h10
  rcases hz with rfl | rfl | rfl | rfl | rfl | rfl | rfl | rfl | rfl | rfl
  all_goals
    go_enter Tryz.func8, Tryz.ntmps8
    go_wp2_with fail
    go_ret
    exact ⟨rfl, HB.out _⟩
end Go.Proofs.YtajnfkmkombajabGreatDoor
namespace Go.Proofs.YtajnfkmkombajabGreatDoor
open Go.RowKit Go.ChangeShapes Go.WideShapes Go.Deep

set_option maxRecDepth 8000 in
theorem texts_of {H : Type} {enc : TypeId × Value → H} {W : World} {base : Nat} {spare : Nat → Bool} {held : Bool} {ao : Option Addr} {len cap : Nat} {d : DataW H} {p : List MemPlace}
    (h : DataW.Trod enc Tryz.prog W base spare held 23 (.slice ao len cap) d p) : ∃ l, RdR strE 1 W ao len cap l ∧ ∀ x ∈ l, x.size ≤ maxLen := by
  obtain ⟨fuel, hf⟩ := h
  have hS : Tryz.prog.cellsOf 9 = 1 := by kernel_rfl
  rcases open_slice Tryz.underlying23 hf with ⟨hcs, _⟩ | ⟨a, l, c, m, n, D, Pl, hcs, _, hl, hm, hmm, _, hall⟩
  · simp [Value.cells] at hcs
    obtain ⟨rfl, rfl, rfl⟩ := hcs
    exact ⟨[], RdR.nil _ _ _, fun x hx => by cases hx⟩
  · simp [Value.cells] at hcs
    obtain ⟨rfl, rfl, rfl⟩ := hcs
    refine RdR.of_cells (Q := fun x : ByteArray => x.size ≤ maxLen) (by decide) hl hm fun i hi => ?_
    obtain ⟨cs, hc, ht⟩ := hall i (by rw [hmm]; split <;> omega)
    rw [hS] at hc
    obtain ⟨_, hcl, hat⟩ := World.cells?_some hc
    match cs, hcl with
    | [v0], _ =>
      obtain ⟨x0, h0, _, w0⟩ := DataW.trod_string Tryz.underlying9 ht
      obtain rfl : v0 = .string x0 := by simpa using h0
      refine ⟨x0, fun j hj => ?_, by simp [strE], w0⟩
      rw [← Go.Deep.add_add, hat j hj]
      rfl
end Go.Proofs.YtajnfkmkombajabGreatDoor
namespace Go.Proofs.YtajnfkmkombajabGreatDoor
open Go Go.RowKit Go.ChangeShapes

/-- the wrap with a condition on the world and the world's shape -/
theorem handed_and_shaped {H : Type} {enc : TypeId × Value → H} {a : Assume} {C : Checked} {os : Os} {f : FuncId} {fn : Func} {s : ChangeSpec} {conds : List PathCond} {apart fresh handsOn again : Bool} {X : World → Array Value → Prop}
    (hX : ∀ (w w' : World) (args : Array Value), w.heap = w'.heap → X w args → X w' args)
    (own : ownKnob C.prog.godebug = none) (started : os.Started) (noInit : C.prog.inits.idxOf? f = none) (hfn : C.prog.funcs[f]? = some fn)
    (witness : ∃ (w : World) (tape : Tape) (i : Input), w.os = os ∧ (w.forCall tape i).Shaped C.prog ∧ i.vars = [] ∧ Input.okWide C.prog (w.forCall tape i) .any w.heap.size f i ∧
      ((s.pre enc C.prog fn conds apart (w.forCall tape i).memory i.args ∧ X (w.forCall tape i).memory i.args) ∧ sizedMet enc C.prog fn (OpenSpec.ofChange s) apart (w.forCall tape i).memory i.args) ∧ a.holds C.prog (lone (Frame.enter C.prog f i.args .normal) [] (w.forCall tape i)))
    (contract : ∀ (W : World) (base : Nat) (args : Array Value) (ds gs : List (DataW H)) (before : List MemPlace),
      (∀ (j : Nat) t v, fn.params[j]? = some t → args[j]? = some v → Value.okWide C.prog W .any base t v) →
      DataW.Whole enc C.prog fn.params.toList s.vars apart W args.toList ds gs before →
      conds.all (PathCond.test C.prog ⟨fn.params.toList, ds, s.plain.varTypes C.prog, gs⟩) = true →
      (DataW.weightsEach C.prog (fn.params.toList ++ s.plain.varTypes C.prog) (ds ++ gs)).all (· ≤ reachBytes) = true → X W args → W.ShapedOpen C.prog →
      a.holds C.prog (lone (Frame.enter C.prog f args .normal) [] W) →
      Calls C.prog f args W fun e W' => ∃ v, e = .returned v ∧ s.post enc C.prog fn apart fresh handsOn again W args v W') :
    ReturnsInHanded a C os f .any (fun w args => (s.pre enc C.prog fn conds apart w args ∧ X w args) ∧ sizedMet enc C.prog fn (OpenSpec.ofChange s) apart w args) (s.post enc C.prog fn apart fresh handsOn again) := by
  refine returnsInHanded_of_calls own started noInit witness ?_
  intro w tape i _ hsh _ hok hpre hholds
  obtain ⟨_, _, _, fn', hfn', _, _, _, _, hval⟩ := hok
  have e : fn' = fn := Option.some.inj (hfn'.symm.trans hfn)
  subst e
  obtain ⟨⟨⟨ds, gs, before, hw, hc⟩, hx⟩, hz⟩ := hpre
  have hw' := DataW.Whole.of_heap (w' := w.forCall tape i) (by rfl) hw
  refine (contract (w.forCall tape i) w.heap.size i.args ds gs before hval hw' hc (hz.weights hw) (hX _ _ _ (by rfl) hx) hsh hholds).mono fun e W' ⟨v, he, hp⟩ => ?_
  subst he
  exact ChangeSpec.post_blind hp

def sentD (text : List UInt8) : DataW Unit := .iface "*errors.errorString" (.ptr (.agg [.lit (.string text)]))
def apiName : Nat → String
  | 1 => "bakehouse/api.ErrText"
  | 2 => "bakehouse/api.ErrBound"
  | 3 => "bakehouse/api.ErrShape"
  | 4 => "bakehouse/api.ErrNone"
  | 5 => "bakehouse/api.ErrExist"
  | 6 => "bakehouse/api.ErrShort"
  | 7 => "bakehouse/api.ErrSmall"
  | 8 => "bakehouse/api.ErrGone"
  | 9 => "bakehouse/api.ErrTurn"
  | _ => "bakehouse/api.ErrOld"
def sentRow (c : Nat) : String × DataW Unit := (apiName c, sentD (errHead ++ errTail c))
/-- errors.errorType and the ten sentinels, in a row's order -/
def laidE : List (String × DataW Unit) := ("errors.errorType", DataW.iface "internal/reflectlite.rtype" (.agg [.ptr (.lit (.string errorName))])) :: [1, 2, 3, 4, 5, 6, 7, 8, 9, 10].map sentRow
def laidKeep : List String := "errors.errorType" :: [1, 2, 3, 4, 5, 6, 7, 8, 9, 10].map apiName

theorem laidE_as : LaidAs [1, 2, 3, 4, 5, 6, 7, 8, 9, 10] (laidE.filter fun x => x.2.handleName?.isNone) := by
  rw [show (laidE.filter fun x => x.2.handleName?.isNone) = [1, 2, 3, 4, 5, 6, 7, 8, 9, 10].map sentRow from by kernel_rfl]
  refine ⟨⟨by decide, by decide, by kernel_rfl, by kernel_rfl, _, rfl⟩, ⟨⟨by decide, by decide, by kernel_rfl, by kernel_rfl, _, rfl⟩, ⟨⟨by decide, by decide, by kernel_rfl, by kernel_rfl, _, rfl⟩, ⟨⟨by decide, by decide, by kernel_rfl, by kernel_rfl, _, rfl⟩, ⟨⟨by decide, by decide, by kernel_rfl, by kernel_rfl, _, rfl⟩, ⟨⟨by decide, by decide, by kernel_rfl, by kernel_rfl, _, rfl⟩, ⟨⟨by decide, by decide, by kernel_rfl, by kernel_rfl, _, rfl⟩, ⟨⟨by decide, by decide, by kernel_rfl, by kernel_rfl, _, rfl⟩, ⟨⟨by decide, by decide, by kernel_rfl, by kernel_rfl, _, rfl⟩, ⟨⟨by decide, by decide, by kernel_rfl, by kernel_rfl, _, rfl⟩, trivial⟩⟩⟩⟩⟩⟩⟩⟩⟩⟩

/-- one listed error variable: what it holds, and the text behind it -/
theorem sent_of_laid {W : World} {L : List (String × DataW Unit)} (hL : laidMetH Tryz.prog L W) {n : String} {text : List UInt8} {g : Nat} (hf : (L.filter fun x => x.1 == n) = [(n, sentD text)])
    (hg : Tryz.prog.globalNamed n = some g) (ht : (Tryz.prog.globals[g]?).map (·.type) = some 26) :
    ∃ a, W.cell? ⟨g, 0, none⟩ = some (.iface 235 (.pointer (some a))) ∧ W.cell? a = some (.string (bstr text)) := by
  have h := hL.filter (fun x => x.1 == n)
  rw [hf] at h
  have h1 := (laidMetH_iff.1 h).1
  rw [show ([(n, sentD text)].filter fun x : String × DataW Unit => x.2.handleName?.isNone) = [(n, sentD text)] from rfl] at h1
  obtain ⟨a, s, hv, hc, htx, _⟩ := laid_sentinel h1 hg ht Tryz.underlying26 Tryz.rowErr Tryz.underlying235 Tryz.underlying237 rfl rfl Tryz.underlying9 Tryz.cellsErr Tryz.cellsStr
  refine ⟨a, by simpa using World.var?_cell hg hv 0, ?_⟩
  rw [hc, ← htx]
  simp [bstr]

theorem laidE_at : ∀ c ∈ [1, 2, 3, 4, 5, 6, 7, 8, 9, 10], (laidE.filter fun x => x.1 == apiName c) = [(apiName c, sentD (errHead ++ errTail c))] ∧ Tryz.prog.globalNamed (apiName c) = some (gE c) ∧ (Tryz.prog.globals[gE c]?).map (·.type) = some 26 := by
  intro c hc
  simp only [List.mem_cons, List.mem_nil_iff, or_false] at hc
  rcases hc with rfl | rfl | rfl | rfl | rfl | rfl | rfl | rfl | rfl | rfl
  all_goals exact ⟨by kernel_rfl, by kernel_rfl, by kernel_rfl⟩

theorem lw_of_laid {W : World} {L : List (String × DataW Unit)} (hL : laidMetH Tryz.prog L W) (hsh : W.ShapedOpen Tryz.prog) (e1 : (L.filter fun x => laidKeep.contains x.1) = laidE)
    (e2 : (L.filter fun x => x.1 == "internal/strconv.uint64pow10") = [("internal/strconv.uint64pow10", Lib.tabData .u64 Lib.pow10Tab)]) {t3 t4 : List UInt8}
    (e3 : (L.filter fun x => x.1 == "strconv.ErrSyntax") = [("strconv.ErrSyntax", sentD t3)]) (e4 : (L.filter fun x => x.1 == "strconv.ErrRange") = [("strconv.ErrRange", sentD t4)]) : ∃ A, Lw A W := by
  have hE := hL.filter (fun x => laidKeep.contains x.1)
  rw [e1] at hE
  obtain ⟨A, hS⟩ := sents_of_laid hE laidE_as (List.Mem.head _) (by kernel_rfl)
  refine ⟨A, hS, fun c h1 h2 => ?_, ?_, ?_, ?_, ?_⟩
  · have hc : c ∈ [1, 2, 3, 4, 5, 6, 7, 8, 9, 10] := by simp; omega
    obtain ⟨f1, f2, f3⟩ := laidE_at c hc
    obtain ⟨a, a1, a2⟩ := sent_of_laid hE f1 f2 f3
    have := hS.errs.cell c hc
    rw [a1, ev_some A (by omega)] at this
    cases this
    exact a2
  · obtain ⟨a, a1, _⟩ := sent_of_laid hL e3 (g := 15) (by kernel_rfl) (by kernel_rfl)
    exact ⟨_, _, a1⟩
  · obtain ⟨a, a1, _⟩ := sent_of_laid hL e4 (g := 16) (by kernel_rfl) (by kernel_rfl)
    exact ⟨_, _, a1⟩
  · have h := hL.filter (fun x => x.1 == "internal/strconv.uint64pow10")
    rw [e2] at h
    have h1 := (laidMetH_iff.1 h).1
    rw [show ([("internal/strconv.uint64pow10", Lib.tabData .u64 Lib.pow10Tab)].filter fun x : String × DataW Unit => x.2.handleName?.isNone) = [("internal/strconv.uint64pow10", Lib.tabData .u64 Lib.pow10Tab)] from by kernel_rfl] at h1
    exact Lib.tabIs_of_head pow10_named (t := 218) (by kernel_rfl) Tryz.underlying218 Tryz.underlying22 (by kernel_rfl) (by kernel_rfl) h1
  · exact Go.Proofs.cell_of_shapedOpen_int (zero := #[.int .i64 0]) (t := 3) hsh (of_decide_eq_true (by kernel_rfl)) (by kernel_rfl) rfl (by kernel_rfl) (by kernel_rfl) Tryz.underlying3
end Go.Proofs.YtajnfkmkombajabGreatDoor
