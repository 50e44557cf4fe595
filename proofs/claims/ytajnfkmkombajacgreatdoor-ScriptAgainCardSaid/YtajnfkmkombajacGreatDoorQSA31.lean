/-
  Plain: the script of the closed fact hello. No program in sight.
  Contract of the document's SameTexts, at the same texts; the closed fact hello.
  A statement's command lines: the form of a word, decimal texts, the line.
  A statement's command line: lineOf.
  A []Line argument of the scripts' laws, opened: it reads as lines: a word, numbers.
-/
import Derived.Test.YtajnfkmkombajacGreatDoorQSA26
import Derived.Test.YtajnfkmkombajacGreatDoorQSA01
import Derived.Test.YtajnfkmkombajacGreatDoorQSA30
import Derived.Deep.QuietTactic
import Derived.BigQuiet
import Derived.Laws.IdiomStrings
import Derived.Test.YtajnfkmkombajacGreatDoorProg
import Derived.Test.YtajnfkmkombajacGreatDoorQSA03
set_option linter.unusedVariables false
set_option linter.unusedSimpArgs false
set_option linter.unusedVariables false
namespace Go.Proofs.YtajnfkmkombajacGreatDoor
open Go.RowKit

theorem bstr_toList (s : ByteArray) : bstr s.data.toList = s := by simp [bstr]
theorem data_bstr (l : List UInt8) : (bstr l).data.toList = l := by simp [bstr]
theorem splitL_eq (l : List UInt8) : splitL (bstr l) = (splitSp l).map bstr := by
  have h := splitB_sp (bstr l)
  rw [data_bstr] at h
  have : ((splitL (bstr l)).map (·.data.toList)).map bstr = (splitSp l).map bstr := by
    rw [← h]; rfl
  rw [← this, List.map_map]
  conv => lhs; rw [← List.map_id (splitL (bstr l))]
  exact List.map_congr_left (fun x _ => (bstr_toList x).symm)
theorem itoaB_nat (u : Nat) : itoaB (u : Int) = bstr (Lib.decDigits u) := by
  unfold itoaB bstr Lib.itoa
  rw [if_neg (by omega)]
  rfl
theorem numOf_digits (u : Nat) (h : u ≤ 9999999) : numOf (bstr (Lib.decDigits u)) = some (u : Int) := by
  unfold numOf
  rw [data_bstr, atoiAll_digits u h]
  simp only
  rw [if_pos]
  refine ⟨?_, by omega, itoaB_nat u⟩
  have := digits_len_le u 7 (by omega) (by decide)
  simpa [bstr, ByteArray.size] using this
/-- a line of a word and its numbers -/
theorem lineOp_of (x : CS) (sd : Nat) {l w : List UInt8} {ns : List Nat} {i : Nat} (hl : splitSp l = w :: ns.map Lib.decDigits) (hw : cmdOf w = some i) (hf : readB (cmdForm i) (ns.map (fun u => bstr (Lib.decDigits u))) = some (ns.map (fun u : Nat => (u : Int)))) :
    x.lineOp sd (bstr l) = x.cmdOp sd i (ns.map (fun u : Nat => (u : Int))) := by
  unfold CS.lineOp
  rw [splitL_eq, hl]
  simp only [List.map_cons, List.headD_cons, List.drop_succ_cons, List.drop_zero, List.map_map, data_bstr, hw]
  have : List.map (bstr ∘ Lib.decDigits) ns = ns.map (fun u => bstr (Lib.decDigits u)) := rfl
  rw [this, hf]
theorem readZ_digits : ∀ (fs : List UInt8) (ns : List Nat), fs.length = ns.length → (∀ p ∈ fs.zip ns, p.2 ≤ 9999999 ∧ (p.1 = 100 → p.2 ≤ 9)) → readZ (fs.zip (ns.map (fun u => bstr (Lib.decDigits u)))) = some (ns.map (fun u : Nat => (u : Int)))
  | [], [], _, _ => rfl
  | [], _ :: _, h, _ => by cases h
  | _ :: _, [], h, _ => by cases h
  | f :: fs, u :: ns, h, hp => by
    have h1 := hp (f, u) (by simp)
    have ih := readZ_digits fs ns (by simpa using h) (fun p hq => hp p (by simp [hq]))
    show readZ ((f, bstr (Lib.decDigits u)) :: fs.zip (ns.map _)) = _
    unfold readZ
    have hf : formNum f (bstr (Lib.decDigits u)) = some (u : Int) := by
      unfold formNum
      rw [numOf_digits u h1.1]
      simp only
      rw [if_neg (fun e => by have := h1.2 e.1; omega)]
    rw [hf, ih]
    rfl
theorem readB_digits {fs : List UInt8} {ns : List Nat} (h : fs.length = ns.length) (hp : ∀ p ∈ fs.zip ns, p.2 ≤ 9999999 ∧ (p.1 = 100 → p.2 ≤ 9)) : readB fs (ns.map (fun u => bstr (Lib.decDigits u))) = some (ns.map (fun u : Nat => (u : Int))) := by
  unfold readB
  rw [if_pos (by simpa using h)]
  exact readZ_digits fs ns h hp

theorem dd_small (u : Nat) (h : u < 10) : Lib.decDigits u = [UInt8.ofNat (48 + u)] := by rw [Lib.decDigits, dif_pos h]
theorem dd_big (u : Nat) (h : ¬ u < 10) : Lib.decDigits u = Lib.decDigits (u / 10) ++ [UInt8.ofNat (48 + u % 10)] := by rw [Lib.decDigits, dif_neg h]
theorem dd500 : Lib.decDigits 500 = [53, 48, 48] := by
  rw [dd_big 500 (by decide), dd_big (500 / 10) (by decide), dd_small (500 / 10 / 10) (by decide)]; decide
theorem dd1500 : Lib.decDigits 1500 = [49, 53, 48, 48] := by
  rw [dd_big 1500 (by decide), dd_big (1500 / 10) (by decide), dd_big (1500 / 10 / 10) (by decide), dd_small (1500 / 10 / 10 / 10) (by decide)]; decide
theorem dd9500 : Lib.decDigits 9500 = [57, 53, 48, 48] := by
  rw [dd_big 9500 (by decide), dd_big (9500 / 10) (by decide), dd_big (9500 / 10 / 10) (by decide), dd_small (9500 / 10 / 10 / 10) (by decide)]; decide
theorem dd1 : Lib.decDigits 1 = [49] := by rw [dd_small 1 (by decide)]; decide
theorem dd4 : Lib.decDigits 4 = [52] := by rw [dd_small 4 (by decide)]; decide

theorem turn_zero {x : CS} (h : x.Inv) (hc : x.cycle ≤ 100) (hl : x.level ≤ 400) : x.turnC 0 = 0 := by
  unfold CS.turnC
  have := h.cy; have := h.lv
  rw [if_pos]
  exact ⟨⟨by omega, by omega⟩, ⟨by omega, by omega⟩, by decide, by decide⟩
theorem cycle_first {x : CS} (h : x.Inv) (sd : Nat) (hc : x.cycle = 0) (hl : x.level = 0) : (x.cycleOp sd).1 = 0 ∧ (x.cycleOp sd).2.cycle = 1 ∧ (x.cycleOp sd).2.level = 4 := by
  have e : x.left = 4 := by unfold CS.left; rw [hl]; rfl
  have step : ∀ (y : CS) (m : Nat), y.Inv → y.cycle = 0 → y.level ≤ 3 → CS.cycleN sd (m + 1) y = CS.cycleN sd m (y.btS sd 0) ∧ (y.btS sd 0).Inv ∧ (y.btS sd 0).level = y.level + 1 ∧ ((y.level + 1) % 4 = 0 → (y.btS sd 0).cycle = 1) ∧ ((y.level + 1) % 4 ≠ 0 → (y.btS sd 0).cycle = 0) := by
    intro y m hy hyc hyl
    have ht := turn_zero hy (by omega) (by omega)
    obtain ⟨b1, b2, b3⟩ := CS.bt_step hy sd ht
    refine ⟨?_, (CS.bt_keeps hy sd 0).1, b1, fun q => by rw [b2 q, hyc]; rfl, fun q => by rw [b3 q, hyc]⟩
    show (if y.turnC 0 ≠ 0 then _ else _) = _
    rw [if_neg (by simp [ht])]
  unfold CS.cycleOp
  rw [e]
  obtain ⟨a1, a2, a3, -, a5⟩ := step x 3 h hc (by omega)
  rw [a1]
  obtain ⟨b1, b2, b3, -, b5⟩ := step _ 2 a2 (a5 (by omega)) (by omega)
  rw [b1]
  obtain ⟨c1, c2, c3, -, c5⟩ := step _ 1 b2 (b5 (by omega)) (by omega)
  rw [c1]
  obtain ⟨d1, d2, d3, d4, -⟩ := step _ 0 c2 (c5 (by omega)) (by omega)
  rw [d1]
  exact ⟨rfl, d4 (by omega), by show (CS.btS _ sd 0).level = 4; omega⟩

def helloLines : List ByteArray := [⟨#[115, 116, 97, 107, 101, 32, 52, 32, 49, 32, 53, 48, 48]⟩, ⟨#[115, 116, 97, 107, 101, 100, 32, 49]⟩, ⟨#[104, 97, 115, 32, 52]⟩, ⟨#[99, 121, 99, 108, 101]⟩, ⟨#[97, 116]⟩]
def helloTold : List ByteArray := [⟨#[111, 107]⟩, ⟨#[49, 53, 48, 48]⟩, ⟨#[57, 53, 48, 48]⟩, ⟨#[111, 107]⟩, ⟨#[49, 32, 52]⟩]
theorem line1 (x : CS) (sd : Nat) : x.lineOp sd ⟨#[115, 116, 97, 107, 101, 32, 52, 32, 49, 32, 53, 48, 48]⟩ = x.cmdOp sd 1 [4, 1, 500] :=
  lineOp_of x sd (l := [115, 116, 97, 107, 101, 32, 52, 32, 49, 32, 53, 48, 48]) (w := [115, 116, 97, 107, 101]) (ns := [4, 1, 500]) (i := 1) (by rw [List.map_cons, List.map_cons, List.map_cons, dd4, dd1, dd500]; decide) (by decide) (readB_digits rfl (by decide))
theorem line2 (x : CS) (sd : Nat) : x.lineOp sd ⟨#[115, 116, 97, 107, 101, 100, 32, 49]⟩ = x.cmdOp sd 9 [1] :=
  lineOp_of x sd (l := [115, 116, 97, 107, 101, 100, 32, 49]) (w := [115, 116, 97, 107, 101, 100]) (ns := [1]) (i := 9) (by rw [List.map_cons, dd1]; decide) (by decide) (readB_digits rfl (by decide))
theorem line3 (x : CS) (sd : Nat) : x.lineOp sd ⟨#[104, 97, 115, 32, 52]⟩ = x.cmdOp sd 8 [4] :=
  lineOp_of x sd (l := [104, 97, 115, 32, 52]) (w := [104, 97, 115]) (ns := [4]) (i := 8) (by rw [List.map_cons, dd4]; decide) (by decide) (readB_digits rfl (by decide))
theorem line4 (x : CS) (sd : Nat) : x.lineOp sd ⟨#[99, 121, 99, 108, 101]⟩ = x.cmdOp sd 4 [] :=
  lineOp_of x sd (l := [99, 121, 99, 108, 101]) (w := [99, 121, 99, 108, 101]) (ns := []) (i := 4) (by decide) (by decide) (readB_digits rfl (by decide))
theorem line5 (x : CS) (sd : Nat) : x.lineOp sd ⟨#[97, 116]⟩ = x.cmdOp sd 14 [] :=
  lineOp_of x sd (l := [97, 116]) (w := [97, 116]) (ns := []) (i := 14) (by decide) (by decide) (readB_digits rfl (by decide))
theorem hello_facts : CS.scriptA 3 helloLines CS.new = helloTold := by
  have s1 : (CS.new.stakeOp 4 1 500).1 = 0 := by decide
  have s2 : (CS.new.stakeOp 4 1 500).2.s.staked 1 = 1500 := by decide
  have s3 : (if ownB 4 then (CS.new.stakeOp 4 1 500).2.p.at 4 else 0) = 9500 := by decide
  have s4 := (CS.stake_inv CS.new_inv 4 1 500).1
  obtain ⟨c1, c2, c3⟩ := cycle_first s4 3 (by decide) (by decide)
  unfold helloLines helloTold
  simp only [CS.scriptA, CS.lineA, line1, line2, line3, line4, line5]
  simp only [CS.cmdOp, List.getD_cons_zero, List.getD_cons_succ, s1, s2, s3, c1, c2, c3, if_true]
  rw [show (1500 : Int) = ((1500 : Nat) : Int) from rfl, show (9500 : Int) = ((9500 : Nat) : Int) from rfl, show (1 : Int) = ((1 : Nat) : Int) from rfl, show (4 : Int) = ((4 : Nat) : Int) from rfl, itoaB_nat, itoaB_nat, itoaB_nat, itoaB_nat, dd1500, dd9500, dd1, dd4]
  rfl
end Go.Proofs.YtajnfkmkombajacGreatDoor
namespace Go.Proofs.YtajnfkmkombajacGreatDoor
open Go Go.RowKit Go.Maps

theorem RdR.own_str {w : World} {base e : Nat} {v : Value} {n : Nat} {l : List ByteArray} (h : w.ownsRow base e 1 v n (l.map Value.string)) : ∃ ao cap, v = .slice ao n cap ∧ RdR strE 1 w ao n cap l := by
  obtain ⟨h1, h2⟩ := h
  have hl : l.length = n := by simpa using h1
  rcases h2 with ⟨hv, hn⟩ | ⟨g, cap', cur, hv, hg, hh, hnc, hcm, hcs, ht⟩
  · subst hn
    have hl0 : l = [] := List.eq_nil_of_length_eq_zero hl
    subst hl0
    exact ⟨none, 0, hv, RdR.nil _ _ _⟩
  · refine ⟨_, cap', hv, hl, hnc, hcm, fun h => (by cases h), fun i x hi => ⟨g, 0, rfl, lt_of_block hh, fun j hj => ?_⟩⟩
    obtain rfl : j = 0 := by omega
    have hi' : i < n := by
      rcases Nat.lt_or_ge i l.length with q | q
      · omega
      · rw [List.getElem?_eq_none q] at hi; cases hi
    have h3 : (cur.toList.take (n * 1))[i]? = some (.string x) := by rw [ht, List.getElem?_map, hi]; rfl
    rw [List.getElem?_take] at h3
    split at h3
    · simp only [World.cell?, hh, strE, List.getElem?_cons_zero]
      simpa using h3
    · cases h3
theorem RdR.take {α : Type} {enc : α → List Value} {C : Nat} {w : World} {ao : Option Addr} {len cap : Nat} {l : List α} (R : RdR enc C w ao len cap l) {k : Nat} (hk : k ≤ len) : RdR enc C w ao k cap (l.take k) :=
  ⟨by rw [List.length_take, R.size]; omega, Nat.le_trans hk R.lc, R.cm, R.nul, fun i x hi => R.cells i x (by
    rw [List.getElem?_take] at hi
    split at hi
    · exact hi
    · cases hi)⟩

set_option maxHeartbeats 400000 in
theorem ref_SameTexts (ax ay : Option Addr) (n cx cy : Nat) (xs : List ByteArray) (w : World) (RX : RdR strE 1 w ax n cx xs) (RY : RdR strE 1 w ay n cy xs) :
    Calls Tryz.prog 63 #[.slice ax n cx, .slice ay n cy] w fun e w' => e = .returned (.bool true) ∧ Dr w w' := by
  have hm : n ≤ 9223372036854775807 := by have := RX.lc; have := RX.cm; unfold maxLen at *; omega
  have HX := Lib.hid RX; have HY := Lib.hid RY
  have hne : ((n : Int) != (n : Int)) = false := bne_self_eq_false _
  clear RX RY
  go_enter Tryz.func63, Tryz.ntmps63
  go_wp2_with fail
  go_loopw [5] (fun i wr => ∃ k : Nat, k ≤ n ∧ i = .int .i64 k ∧ Dr w wr) (fun i _ => n - (intOf i).toNat)
  case atStart => exact ⟨0, Nat.zero_le _, rfl, Dr.refl _⟩
  case round =>
    obtain ⟨k, hk, rfl, d, rfl⟩ := hrel
    by_cases hlt : k < n
    · obtain ⟨x, hx⟩ : ∃ x, xs[k]? = some x := ⟨_, List.getElem?_eq_getElem (by have := HX.out.size; omega)⟩
      obtain ⟨b, off, ha, hb, hc⟩ := HX.out.cells k x hx
      obtain ⟨b', off', ha', hb', hc'⟩ := HY.out.cells k x hx
      have c0 := hc 0 (by decide)
      have c1 := hc' 0 (by decide)
      simp only [strE, List.getElem?_cons_zero, Nat.add_zero, Nat.mul_one] at c0 c1
      have Ha := Lib.hid ha; have Ha' := Lib.hid ha'
      clear ha ha' hc hc' hx hb hb'
      have h1 := Ha.out; subst h1
      have h2 := Ha'.out; subst h2
      have hxx : (x != x) = false := by show (!(x == x)) = false; rw [(MapKept.bytes_beq x x).2 rfl]; rfl
      have i0 : (0 : Int) ≤ (k : Int) := by omega
      have i1 : (k : Int) < (n : Int) := by omega
      go_wp2_with fail
      go_quiet (fail)
      go_wp2_with fail
      go_roundw
      case rel => exact ⟨k + 1, by omega, by go_num, d + nq, by simp [World.drewN]⟩
      case measure => simp [intOf]; omega
    · go_wp2
      go_ret
      exact ⟨rfl, d, rfl⟩

set_option maxRecDepth 8000 in
set_option maxHeartbeats 1000000 in
theorem law_hello (A : Nat → Addr) (w : World) (h : Lw A w) : Calls Tryz.prog 60 #[] w fun e w' => e = .returned (.bool true) ∧ Below w.heap.size w w' := by
  have HL := Lib.hid h
  have HF := Lib.hid hello_facts
  have HS := Lib.hid (show ∀ s ∈ helloLines, s.size ≤ 100000 by decide)
  clear h
  go_enter Tryz.func60, Tryz.ntmps60
  go_wp2_with fail
  have B0 := Lib.hid (fun ob => (Below.refl w.heap.size w).alloc (Nat.le_refl _) ob)
  refine (scr_Run A 3 (by decide) _ 5 5 helloLines _ (HL.out.below (B0.out _)) (RdR.str_new w 9 helloLines (by decide)) HS.out (by decide)).mono ?_
  rintro e w1 ⟨v, rfl, b1, o1⟩
  obtain ⟨ao, cap, rfl, R1⟩ := RdR.own_str o1
  have HB := Lib.hid (btrans (B0.out _) b1)
  have HR := Lib.hid R1
  clear b1 o1 R1
  rw [ev_nil]
  go_wp2_with fail
  have B2 := Lib.hid (fun ob => HB.out.alloc HB.out.size ob)
  refine (ref_SameTexts ao _ 5 cap 5 helloTold _ ((HF.out ▸ HR.out).below ((Below.refl _ _).alloc (Nat.le_refl _) _)) (RdR.str_new w1 9 helloTold (by decide))).mono ?_
  rintro e w2 ⟨rfl, k, rfl⟩
  go_wp2_with fail
  go_ret
  exact ⟨rfl, (B2.out _).drewN k⟩
end Go.Proofs.YtajnfkmkombajacGreatDoor
namespace Go.Proofs.YtajnfkmkombajacGreatDoor
open Go Go.RowKit Go.Maps

/-- the form of a word, empty where it is no command's -/
def formT (c : Option Nat) : List UInt8 := match c with
  | some i => cmdForm i
  | none => []
set_option maxHeartbeats 1000000 in
theorem law_formOf (s : ByteArray) (w : World) : Calls Tryz.prog 122 #[.string s] w fun e w' => e = .returned (.tuple #[.string (bstr (formT (cmdOf s.data.toList))), .bool (cmdOf s.data.toList).isSome]) ∧ w = w' := by
  cases hc : cmdOf s.data.toList with
  | none =>
    have hn := cmdOf_none hc
    have n0 : (s.toList == [112, 97, 121]) = false := by rw [ByteArray.toList_eq, beq_eq_false_iff_ne]; exact hn 0 (by decide)
    have n1 : (s.toList == [115, 116, 97, 107, 101]) = false := by rw [ByteArray.toList_eq, beq_eq_false_iff_ne]; exact hn 1 (by decide)
    have n2 : (s.toList == [117, 110, 115, 116, 97, 107, 101]) = false := by rw [ByteArray.toList_eq, beq_eq_false_iff_ne]; exact hn 2 (by decide)
    have n3 : (s.toList == [97, 99, 99, 117, 115, 101]) = false := by rw [ByteArray.toList_eq, beq_eq_false_iff_ne]; exact hn 3 (by decide)
    have n4 : (s.toList == [99, 121, 99, 108, 101]) = false := by rw [ByteArray.toList_eq, beq_eq_false_iff_ne]; exact hn 4 (by decide)
    have n5 : (s.toList == [102, 114, 101, 101]) = false := by rw [ByteArray.toList_eq, beq_eq_false_iff_ne]; exact hn 5 (by decide)
    have n6 : (s.toList == [116, 117, 114, 110]) = false := by rw [ByteArray.toList_eq, beq_eq_false_iff_ne]; exact hn 6 (by decide)
    have n7 : (s.toList == [98, 97, 107, 101]) = false := by rw [ByteArray.toList_eq, beq_eq_false_iff_ne]; exact hn 7 (by decide)
    have n8 : (s.toList == [104, 97, 115]) = false := by rw [ByteArray.toList_eq, beq_eq_false_iff_ne]; exact hn 8 (by decide)
    have n9 : (s.toList == [115, 116, 97, 107, 101, 100]) = false := by rw [ByteArray.toList_eq, beq_eq_false_iff_ne]; exact hn 9 (by decide)
    have n10 : (s.toList == [118, 97, 108, 117, 101]) = false := by rw [ByteArray.toList_eq, beq_eq_false_iff_ne]; exact hn 10 (by decide)
    have n11 : (s.toList == [119, 97, 105, 116, 115]) = false := by rw [ByteArray.toList_eq, beq_eq_false_iff_ne]; exact hn 11 (by decide)
    have n12 : (s.toList == [115, 117, 112, 112, 108, 121]) = false := by rw [ByteArray.toList_eq, beq_eq_false_iff_ne]; exact hn 12 (by decide)
    have n13 : (s.toList == [98, 111, 110, 117, 115]) = false := by rw [ByteArray.toList_eq, beq_eq_false_iff_ne]; exact hn 13 (by decide)
    have n14 : (s.toList == [97, 116]) = false := by rw [ByteArray.toList_eq, beq_eq_false_iff_ne]; exact hn 14 (by decide)
    clear hn hc
    go_enter Tryz.func122, Tryz.ntmps122
    go_wp2_with fail
    go_ret2
    exact ⟨rfl, rfl⟩
  | some i =>
    obtain ⟨hi, hw⟩ := cmdOf_some hc
    have hs : s.toList = cmdWord i := by rw [ByteArray.toList_eq]; exact hw.symm
    clear hw hc
    have hz : i = 0 ∨ i = 1 ∨ i = 2 ∨ i = 3 ∨ i = 4 ∨ i = 5 ∨ i = 6 ∨ i = 7 ∨ i = 8 ∨ i = 9 ∨ i = 10 ∨ i = 11 ∨ i = 12 ∨ i = 13 ∨ i = 14 := by omega
    rcases hz with rfl | rfl | rfl | rfl | rfl | rfl | rfl | rfl | rfl | rfl | rfl | rfl | rfl | rfl | rfl
    · have h1 : s.toList = [112, 97, 121] := hs
      clear hs hi
      go_enter Tryz.func122, Tryz.ntmps122
      go_wp2_with fail
      go_ret2
      exact ⟨rfl, rfl⟩
    · have h1 : s.toList = [115, 116, 97, 107, 101] := hs
      clear hs hi
      go_enter Tryz.func122, Tryz.ntmps122
      go_wp2_with fail
      go_ret2
      exact ⟨rfl, rfl⟩
    · have h1 : s.toList = [117, 110, 115, 116, 97, 107, 101] := hs
      clear hs hi
      go_enter Tryz.func122, Tryz.ntmps122
      go_wp2_with fail
      go_ret2
      exact ⟨rfl, rfl⟩
    · have h1 : s.toList = [97, 99, 99, 117, 115, 101] := hs
      clear hs hi
      go_enter Tryz.func122, Tryz.ntmps122
      go_wp2_with fail
      go_ret2
      exact ⟨rfl, rfl⟩
    · have h1 : s.toList = [99, 121, 99, 108, 101] := hs
      clear hs hi
      go_enter Tryz.func122, Tryz.ntmps122
      go_wp2_with fail
      go_ret2
      exact ⟨rfl, rfl⟩
    · have h1 : s.toList = [102, 114, 101, 101] := hs
      clear hs hi
      go_enter Tryz.func122, Tryz.ntmps122
      go_wp2_with fail
      go_ret2
      exact ⟨rfl, rfl⟩
    · have h1 : s.toList = [116, 117, 114, 110] := hs
      clear hs hi
      go_enter Tryz.func122, Tryz.ntmps122
      go_wp2_with fail
      go_ret2
      exact ⟨rfl, rfl⟩
    · have h1 : s.toList = [98, 97, 107, 101] := hs
      clear hs hi
      go_enter Tryz.func122, Tryz.ntmps122
      go_wp2_with fail
      go_ret2
      exact ⟨rfl, rfl⟩
    · have h1 : s.toList = [104, 97, 115] := hs
      clear hs hi
      go_enter Tryz.func122, Tryz.ntmps122
      go_wp2_with fail
      go_ret2
      exact ⟨rfl, rfl⟩
    · have h1 : s.toList = [115, 116, 97, 107, 101, 100] := hs
      clear hs hi
      go_enter Tryz.func122, Tryz.ntmps122
      go_wp2_with fail
      go_ret2
      exact ⟨rfl, rfl⟩
    · have h1 : s.toList = [118, 97, 108, 117, 101] := hs
      clear hs hi
      go_enter Tryz.func122, Tryz.ntmps122
      go_wp2_with fail
      go_ret2
      exact ⟨rfl, rfl⟩
    · have h1 : s.toList = [119, 97, 105, 116, 115] := hs
      clear hs hi
      go_enter Tryz.func122, Tryz.ntmps122
      go_wp2_with fail
      go_ret2
      exact ⟨rfl, rfl⟩
    · have h1 : s.toList = [115, 117, 112, 112, 108, 121] := hs
      clear hs hi
      go_enter Tryz.func122, Tryz.ntmps122
      go_wp2_with fail
      go_ret2
      exact ⟨rfl, rfl⟩
    · have h1 : s.toList = [98, 111, 110, 117, 115] := hs
      clear hs hi
      go_enter Tryz.func122, Tryz.ntmps122
      go_wp2_with fail
      go_ret2
      exact ⟨rfl, rfl⟩
    · have h1 : s.toList = [97, 116] := hs
      clear hs hi
      go_enter Tryz.func122, Tryz.ntmps122
      go_wp2_with fail
      go_ret2
      exact ⟨rfl, rfl⟩

theorem str_index (fl : List UInt8) (hf : fl.length ≤ 100) (j : Nat) (c : UInt8) (hc : fl[j]? = some c) (wx : World) : (Instr.index 9 (.string (bstr fl)) (.int .i64 (j : Int))).run Tryz.prog wx = .ok (.int .u8 (c.toNat : Int)) wx := by
  have hj : j < fl.length := by
    rcases Nat.lt_or_ge j fl.length with q | q
    · exact q
    · rw [List.getElem?_eq_none q] at hc; cases hc
  have hsz : (bstr fl).size = fl.length := by simp [bstr, ByteArray.size]
  have hjs : j < (bstr fl).size := by omega
  rw [run_index_string _ _ _ _ _ Tryz.underlying9, dif_pos (by omega)]
  have : (bstr fl)[(j : Int).toNat]'(by simpa using hjs) = c := by
    rw [List.getElem?_eq_getElem hj] at hc
    simpa [bstr, ByteArray.getElem_eq_getElem_data] using hc
  rw [this]

theorem ref_Byte (u : Nat) (hu : u < 256) (w : World) : Calls Tryz.prog 232 #[.int .i64 u] w fun e w' => e = .returned (.string (bstr [UInt8.ofNat u])) ∧ Below w.heap.size w w' := by
  have hwr : IntKind.u8.wrap (u : Int) = (u : Int) := by simp [IntKind.wrap, IntKind.bits, IntKind.signed]; omega
  have hback : (convert 330 9 (.slice (some ⟨w.heap.size, 0, none⟩) 1 1)).run Tryz.prog (w.alloc (.cells #[.int .u8 (u : Int)] 5)) = .ok (.string (bstr [UInt8.ofNat u])) (w.alloc (.cells #[.int .u8 (u : Int)] 5)) := by
    refine run_convert_bytes_back _ 330 9 5 _ 1 [UInt8.ofNat u] Tryz.underlying330 Tryz.underlying5 Tryz.underlying9 (fun j hj => ?_)
    obtain rfl : j = 0 := by simp at hj; omega
    show World.cell? _ ⟨w.heap.size, 0, none⟩ = _
    unfold World.cell?
    rw [heap_alloc_new]
    simp [Nat.mod_eq_of_lt hu]
  have HB := Lib.hid (fun ob => (Below.refl w.heap.size w).alloc (Nat.le_refl _) ob)
  clear hu
  go_enter Tryz.func232, Tryz.ntmps232
  go_wp2_with fail
  go_ret
  exact ⟨rfl, HB.out _⟩

theorem bstr_size (l : List UInt8) : (bstr l).size = l.length := by simp [bstr, ByteArray.size]
theorem bstr_append (a b : List UInt8) : bstr a ++ bstr b = bstr (a ++ b) := by
  apply Go.WideShapes.bytes_inj
  simp [bstr]
theorem itoa_nonneg (z : Int) (h : 0 ≤ z) : itoaB z = bstr (Lib.decDigits z.toNat) := by
  unfold itoaB bstr Lib.itoa
  rw [if_neg (by omega)]

set_option maxHeartbeats 1000000 in
theorem ref_below : ∀ (m : Nat), m ≤ 9223372036854775807 → ∀ (z : Int), z = -(m : Int) → ∀ w : World, Calls Tryz.prog 187 #[.int .i64 z] w fun e w' => e = .returned (.string (bstr (Lib.decDigits m))) ∧ Below w.heap.size w w' := by
  intro m
  induction m using Nat.strongRecOn with
  | _ m ih =>
  intro hm z hz w
  by_cases h10 : m < 10
  · have d1 : decide (-10 < z) = true := decide_eq_true (by omega)
    obtain ⟨u, hu⟩ : ∃ u, u = 48 + m := ⟨_, rfl⟩
    have hw : IntKind.i64.wrap (48 - z) = (u : Int) := by rw [hz, hu]; simp [IntKind.wrap, IntKind.bits, IntKind.signed]; omega
    have hB := ref_Byte u (by omega) w
    rw [show bstr [UInt8.ofNat u] = bstr (Lib.decDigits m) by rw [Lib.decDigits, dif_pos h10, hu]] at hB
    have HB := Lib.hid hB
    clear hB hu h10 hz hm ih
    go_enter Tryz.func187, Tryz.ntmps187
    go_wp2_with fail
    refine HB.out.mono ?_
    rintro e w1 ⟨rfl, b1⟩
    go_wp2_with fail
    go_ret
    exact ⟨rfl, b1⟩
  · have d1 : decide (-10 < z) = false := decide_eq_false (by omega)
    obtain ⟨u, hu⟩ : ∃ u, u = 48 + m % 10 := ⟨_, rfl⟩
    obtain ⟨z1, hz1⟩ : ∃ z1 : Int, z1 = -((m / 10 : Nat) : Int) := ⟨_, rfl⟩
    obtain ⟨z2, hz2⟩ : ∃ z2 : Int, z2 = -((m % 10 : Nat) : Int) := ⟨_, rfl⟩
    have hq : z.tdiv 10 = z1 := by rw [hz, hz1, Int.neg_tdiv]; rfl
    have hr : z.tmod 10 = z2 := by rw [hz, hz2, Int.neg_tmod]; rfl
    have hw : IntKind.i64.wrap (48 - z2) = (u : Int) := by rw [hz2, hu]; simp [IntKind.wrap, IntKind.bits, IntKind.signed]; omega
    have hw1 : IntKind.i64.wrap z1 = z1 := by rw [hz1]; simp [IntKind.wrap, IntKind.bits, IntKind.signed]; omega
    have hw2 : IntKind.i64.wrap z2 = z2 := by rw [hz2]; simp [IntKind.wrap, IntKind.bits, IntKind.signed]; omega
    have HI := Lib.hid (ih (m / 10) (by omega) (by omega) z1 hz1)
    have HB := Lib.hid (ref_Byte u (by omega))
    have hap : bstr (Lib.decDigits (m / 10)) ++ bstr [UInt8.ofNat u] = bstr (Lib.decDigits m) := by
      rw [bstr_append, hu]
      conv => rhs; rw [Lib.decDigits, dif_neg h10]
    have hl : (Lib.decDigits (m / 10)).length ≤ 20 := digits_len_le _ 20 (by omega) (by decide)
    have hs1 := bstr_size (Lib.decDigits (m / 10))
    have hs2 := bstr_size [UInt8.ofNat u]
    have H2 := Lib.hid hap
    clear hap
    generalize bstr (Lib.decDigits (m / 10)) = b1 at *
    generalize bstr [UInt8.ofNat u] = b2 at *
    have hlen : ¬ (9223372036854775807 < b1.size + b2.size) := by rw [hs1, hs2]; simp; omega
    clear hu h10 hz hm ih hz1 hz2 hl hs1 hs2
    go_enter Tryz.func187, Tryz.ntmps187
    go_wp2_with fail
    refine (HI.out _).mono ?_
    rintro e w1 ⟨rfl, k1⟩
    go_wp2_with fail
    refine (HB.out _).mono ?_
    rintro e w2 ⟨rfl, k2⟩
    go_wp2_with fail
    go_ret
    exact ⟨by rw [H2.out]; rfl, btrans k1 k2⟩
theorem ref_Decimal (n : Int) (h0 : 0 ≤ n) (h1 : n ≤ 9223372036854775807) (w : World) : Calls Tryz.prog 123 #[.int .i64 n] w fun e w' => e = .returned (.string (itoaB n)) ∧ Below w.heap.size w w' := by
  obtain ⟨z, hz⟩ : ∃ z, z = -n := ⟨_, rfl⟩
  have hw : IntKind.i64.wrap (-n) = z := by rw [hz]; simp [IntKind.wrap, IntKind.bits, IntKind.signed]; omega
  have d0 : decide (n < 0) = false := decide_eq_false (by omega)
  have hB := ref_below n.toNat (by omega) z (by omega) w
  rw [← itoa_nonneg n h0] at hB
  have HB := Lib.hid hB
  clear hB hz h0 h1
  go_enter Tryz.func123, Tryz.ntmps123
  go_wp2_with fail
  refine HB.out.mono ?_
  rintro e w1 ⟨rfl, b1⟩
  go_wp2_with fail
  go_ret
  exact ⟨rfl, b1⟩
end Go.Proofs.YtajnfkmkombajacGreatDoor
namespace Go.Proofs.YtajnfkmkombajacGreatDoor
open Go Go.RowKit Go.Maps

def fitB (c : UInt8) (n : Int) : Bool := decide (0 ≤ n) && decide (n ≤ if c = 100 then 9 else 9999999)
def lineT (wd : ByteArray) (ns : List Int) : ByteArray := ns.foldl (fun s n => s ++ spB ++ itoaB n) wd
/-- the line of a command; none: it is no command -/
def lineB (wd : ByteArray) (ns : List Int) : Option ByteArray :=
  if (cmdOf wd.data.toList).isSome = true ∧ ns.length = (formT (cmdOf wd.data.toList)).length ∧ ((formT (cmdOf wd.data.toList)).zip ns).all (fun p => fitB p.1 p.2) = true then some (lineT wd ns) else none
def lineV (o : Option ByteArray) : Value := .tuple #[.string (o.getD ⟨#[]⟩), .bool o.isSome]
theorem lineT_snoc (wd : ByteArray) (ns : List Int) (n : Int) : lineT wd (ns ++ [n]) = lineT wd ns ++ spB ++ itoaB n := by unfold lineT; rw [List.foldl_append]; rfl
theorem cmdForm_len (i : Nat) : (cmdForm i).length ≤ 4 := by
  rcases Nat.lt_or_ge i 15 with h | h
  · have : ∀ j, j < 15 → (cmdForm j).length ≤ 4 := by decide
    exact this i h
  · unfold cmdForm; rw [List.getD_eq_getElem?_getD, List.getElem?_eq_none h]; decide
theorem formT_len (c : Option Nat) : (formT c).length ≤ 4 := by
  cases c with
  | none => decide
  | some i => exact cmdForm_len i
theorem lineT_size (wd : ByteArray) : ∀ (ns : List Int), (∀ n ∈ ns, 0 ≤ n ∧ n ≤ 9223372036854775807) → (lineT wd ns).size ≤ wd.size + 22 * ns.length := by
  intro ns
  induction ns generalizing wd with
  | nil => intro _; exact Nat.le_refl _
  | cons n ns ih =>
    intro h
    have := ih (wd ++ spB ++ itoaB n) (fun x hx => h x (List.mem_cons_of_mem _ hx))
    have h1 := h n (by simp)
    have h2 := itoaB_size (v := n) ⟨by omega, h1.2⟩
    have h3 : (wd ++ spB ++ itoaB n).size = wd.size + 1 + (itoaB n).size := by rw [ByteArray.size_append, ByteArray.size_append]; rfl
    show (lineT (wd ++ spB ++ itoaB n) ns).size ≤ _
    simp only [List.length_cons]
    omega
theorem lineB_size {wd : ByteArray} {ns : List Int} {s : ByteArray} (h : lineB wd ns = some s) (hw : wd.size ≤ 60) (hn : ∀ n ∈ ns, 0 ≤ n ∧ n ≤ 9223372036854775807) : s.size ≤ 100000 := by
  unfold lineB at h
  split at h
  · next hc =>
    cases h
    have := lineT_size wd ns hn
    have := formT_len (cmdOf wd.data.toList)
    omega
  · cases h
set_option maxRecDepth 8000 in
set_option maxHeartbeats 1000000 in
theorem law_lineOf (wd : ByteArray) (ao : Option Addr) (len cap : Nat) (ns : List Int) (w : World) (R : RdI .i64 w ao len cap ns) (hw : wd.size ≤ 60) (hn : ∀ n ∈ ns, n ≤ 9223372036854775807) :
    Calls Tryz.prog 61 #[.agg #[.string wd, .slice ao len cap]] w fun e w' => e = .returned (lineV (lineB wd ns)) ∧ Below w.heap.size w w' := by
  obtain ⟨wb, hwb⟩ : ∃ wb, w.alloc (.cells #[.string wd, .slice ao len cap] 95) = wb := ⟨_, rfl⟩
  have b0 : Below w.heap.size w wb := by rw [← hwb]; exact (Below.refl _ _).alloc (Nat.le_refl _) _
  have hlt : w.heap.size < wb.heap.size := by rw [← hwb]; simp
  have c0 : wb.cell? ⟨w.heap.size, 0, none⟩ = some (.string wd) := by rw [← hwb]; unfold World.cell?; rw [heap_alloc_new]; simp
  have c1 : wb.cell? ⟨w.heap.size, 1, none⟩ = some (.slice ao len cap) := by rw [← hwb]; unfold World.cell?; rw [heap_alloc_new]; simp
  have HC := Lib.hid (fun wx (k : Below wb.heap.size wb wx) => show wx.cell? ⟨w.heap.size, 0, none⟩ = some (.string wd) ∧ wx.cell? ⟨w.heap.size, 1, none⟩ = some (.slice ao len cap) ∧ RdI .i64 wx ao len cap ns from
    ⟨by rw [k.cell hlt]; exact c0, by rw [k.cell hlt]; exact c1, (R.below b0).below k⟩)
  have HB0 := Lib.hid b0
  have HFO := Lib.hid (fun wx => law_formOf wd wx)
  have hfl := formT_len (cmdOf wd.data.toList)
  have HIX := Lib.hid (fun j c (hc : (formT (cmdOf wd.data.toList))[j]? = some c) wx => str_index (formT (cmdOf wd.data.toList)) (by omega) j c hc wx)
  have HLB := Lib.hid (show lineB wd ns = if (cmdOf wd.data.toList).isSome = true ∧ ns.length = (formT (cmdOf wd.data.toList)).length ∧ ((formT (cmdOf wd.data.toList)).zip ns).all (fun p => fitB p.1 p.2) = true then some (lineT wd ns) else none from rfl)
  have hfs := bstr_size (formT (cmdOf wd.data.toList))
  have hsz := R.size
  have HN := Lib.hid hn
  generalize formT (cmdOf wd.data.toList) = fl at *
  generalize (cmdOf wd.data.toList).isSome = is at *
  generalize lineB wd ns = res at *
  clear c0 c1 R hn
  generalize hf : bstr fl = form at *
  clear hf
  cases is with
  | false =>
    have hr : res = none := by rw [HLB.out, if_neg (by simp)]
    subst hr
    clear HLB HIX hfl hfs hsz HN
    have c := HC.out _ (Below.refl _ _)
    obtain ⟨c0, c1, -⟩ := c
    go_enter Tryz.func61, Tryz.ntmps61
    go_wp2_with fail
    refine (HFO.out _).mono ?_
    rintro e w1 ⟨rfl, rfl⟩
    go_wp2_with fail
    go_ret2
    exact ⟨rfl, HB0.out⟩
  | true =>
  by_cases hlen : len = fl.length
  case neg =>
    have hr : res = none := by rw [HLB.out, if_neg (by rw [hsz]; simp [hlen])]
    subst hr
    have ne : ((len : Int) != (form.size : Int)) = true := by rw [hfs]; simp; omega
    clear HLB HIX hfl hfs hsz HN hlen
    obtain ⟨c0, c1, -⟩ := HC.out _ (Below.refl _ _)
    go_enter Tryz.func61, Tryz.ntmps61
    go_wp2_with fail
    refine (HFO.out _).mono ?_
    rintro e w1 ⟨rfl, rfl⟩
    go_wp2_with fail
    go_ret2
    exact ⟨rfl, HB0.out⟩
  case pos =>
  have ne : ((len : Int) != (form.size : Int)) = false := by rw [hfs]; simp; omega
  have HL := Lib.hid hlen
  have HS := Lib.hid hsz
  have HFS := Lib.hid hfs
  have HW := Lib.hid hw
  have hl4 : len ≤ 4 := by omega
  clear hfl hfs hsz hlen hw
  obtain ⟨c0, c1, -⟩ := HC.out _ (Below.refl _ _)
  go_enter Tryz.func61, Tryz.ntmps61
  go_wp2_with fail
  refine (HFO.out _).mono ?_
  rintro e w1 ⟨rfl, rfl⟩
  go_wp2_with fail
  go_loopg [6, 7] len (fun g out i wr => ∃ (j : Nat), g + j = len ∧ i = .int .i64 j ∧ out = .string (lineT wd (ns.take j)) ∧ ((fl.zip ns).take j).all (fun p => fitB p.1 p.2) = true ∧ (lineT wd (ns.take j)).size ≤ 60 + 22 * j ∧ Below wb.heap.size wb wr)
  case atStart => exact ⟨0, rfl, rfl, rfl, rfl, HW.out, Below.refl _ _⟩
  case round =>
    clear c0 c1
    obtain ⟨j, hg, rfl, rfl, hall, hsz, hb⟩ := hrel
    have HG := Lib.hid hg; have HA := Lib.hid hall; have HB := Lib.hid hb; have HSZ := Lib.hid hsz
    clear hg hall hb hsz
    obtain ⟨c0, c1, RR⟩ := HC.out _ HB.out
    by_cases hlt : j < len
    · obtain ⟨b, off, rfl, hcell⟩ := RR.cells j hlt
      obtain ⟨c, hc⟩ : ∃ c, fl[j]? = some c := ⟨_, List.getElem?_eq_getElem (by have := HL.out; omega)⟩
      obtain ⟨x, hx⟩ : ∃ x, ns[j]? = some x := ⟨_, List.getElem?_eq_getElem (by have := HS.out; omega)⟩
      rw [List.getD_eq_getElem?_getD, hx] at hcell
      simp only [Option.getD_some] at hcell
      have hidx := HIX.out j c hc
      have hx63 := HN.out x (List.mem_of_getElem? hx)
      have hzz : (fl.zip ns)[j]? = some (c, x) := by rw [List.getElem?_zip_eq_some]; exact ⟨hc, hx⟩
      have HZM := Lib.hid (show fitB c x = false → res = none from fun e => by
        rw [HLB.out, if_neg]
        rintro ⟨-, -, q⟩
        have := List.all_eq_true.1 q (c, x) (List.mem_of_getElem? hzz)
        rw [e] at this; cases this)
      have HST := Lib.hid (show lineT wd (ns.take (j + 1)) = lineT wd (ns.take j) ++ spB ++ itoaB x ∧ ((fl.zip ns).take (j + 1)) = (fl.zip ns).take j ++ [(c, x)] from
        ⟨by rw [List.take_add_one, hx]; exact lineT_snoc _ _ _, by rw [List.take_add_one, hzz]; rfl⟩)
      clear hzz hc hx RR
      have h100 : ((c.toNat : Int) == 100) = decide (c = 100) := by
        rw [Bool.eq_iff_iff]; simp only [beq_iff_eq, decide_eq_true_eq]
        constructor
        · intro e; exact UInt8.toNat_inj.1 (by rw [show c.toNat = 100 by omega]; rfl)
        · intro e; subst e; rfl
      generalize hci : (c.toNat : Int) = ci at *
      clear hci
      generalize lineT wd (ns.take j) = tx at *
      have hsp : (⟨#[32]⟩ : ByteArray) = spB := rfl
      by_cases hx0 : x < 0
      · have d0 : decide (x < 0) = true := decide_eq_true hx0
        have hr : res = none := HZM.out (by unfold fitB; rw [decide_eq_false (by omega)]; rfl)
        subst hr
        have HNB := Lib.hid (btrans HB0.out HB.out)
        clear hx0 HZM HST
        by_cases hcc : c = 100
        all_goals
          first | rw [decide_eq_true hcc] at h100 | rw [decide_eq_false hcc] at h100
          clear hcc
          go_wp2_with fail
          go_ret2
          exact ⟨rfl, HNB.out⟩
      · have d0 : decide (x < 0) = false := decide_eq_false hx0
        have hx0 : 0 ≤ x := by omega
        have HDE := Lib.hid (fun wx => ref_Decimal x hx0 hx63 wx)
        have hds := itoaB_size (v := x) ⟨by omega, hx63⟩
        have htz := HSZ.out
        have hb1 : ¬ (9223372036854775807 < tx.size + 1) := by omega
        have hb2 : ¬ (9223372036854775807 < tx.size + 1 + (itoaB x).size) := by omega
        have hb3 : ¬ (9223372036854775807 < (tx ++ (⟨#[32]⟩ : ByteArray)).size + (itoaB x).size) := by rw [ByteArray.size_append]; exact hb2
        have HZ2 := Lib.hid (show (tx ++ spB ++ itoaB x).size ≤ 60 + 22 * (j + 1) by
          have : (tx ++ spB ++ itoaB x).size = tx.size + 1 + (itoaB x).size := by rw [ByteArray.size_append, ByteArray.size_append]; rfl
          omega)
        have HFT := Lib.hid (show fitB c x = decide (x ≤ if c = 100 then 9 else 9999999) by unfold fitB; rw [decide_eq_true hx0]; rfl)
        clear hds htz hx63 hx0
        generalize itoaB x = dg at *
        by_cases hcc : c = 100
        · rw [decide_eq_true hcc] at h100
          rw [if_pos hcc] at HFT
          clear hcc
          by_cases h9 : 9 < x
          · have d9 : decide (9 < x) = true := decide_eq_true h9
            have hr : res = none := HZM.out (by rw [HFT.out]; exact decide_eq_false (by omega))
            subst hr
            have HNB := Lib.hid (btrans HB0.out HB.out)
            clear h9 HZM HST HFT
            go_wp2_with fail
            go_ret2
            exact ⟨rfl, HNB.out⟩
          · have d9 : decide (9 < x) = false := decide_eq_false h9
            have HF := Lib.hid (show fitB c x = true by rw [HFT.out]; exact decide_eq_true (by omega))
            clear h9 HFT HZM
            go_wp2_with fail
            refine (HDE.out _).mono ?_
            rintro e w2 ⟨rfl, b2⟩
            have HB2 := Lib.hid (btrans HB.out b2)
            clear b2
            go_wp2_with fail
            have hg := HG.out
            go_roundg (len - (j + 1))
            case measure => omega
            case rel => exact ⟨j + 1, by omega, by go_num, by rw [HST.out.1], by rw [HST.out.2, List.all_append, HA.out]; simpa using HF.out, by rw [HST.out.1]; exact HZ2.out, HB2.out⟩
        · rw [decide_eq_false hcc] at h100
          rw [if_neg hcc] at HFT
          clear hcc
          by_cases h9 : 9999999 < x
          · have d9 : decide (9999999 < x) = true := decide_eq_true h9
            have hr : res = none := HZM.out (by rw [HFT.out]; exact decide_eq_false (by omega))
            subst hr
            have HNB := Lib.hid (btrans HB0.out HB.out)
            clear h9 HZM HST HFT
            go_wp2_with fail
            go_ret2
            exact ⟨rfl, HNB.out⟩
          · have d9 : decide (9999999 < x) = false := decide_eq_false h9
            have HF := Lib.hid (show fitB c x = true by rw [HFT.out]; exact decide_eq_true (by omega))
            clear h9 HFT HZM
            go_wp2_with fail
            refine (HDE.out _).mono ?_
            rintro e w2 ⟨rfl, b2⟩
            have HB2 := Lib.hid (btrans HB.out b2)
            clear b2
            go_wp2_with fail
            have hg := HG.out
            go_roundg (len - (j + 1))
            case measure => omega
            case rel => exact ⟨j + 1, by omega, by go_num, by rw [HST.out.1], by rw [HST.out.2, List.all_append, HA.out]; simpa using HF.out, by rw [HST.out.1]; exact HZ2.out, HB2.out⟩
    · have hjl : j = len := by have := HG.out; omega
      subst hjl
      have hz := HS.out
      have hr : res = some (lineT wd (ns.take j)) := by
        rw [HLB.out, if_pos ⟨trivial, by rw [hz]; exact HL.out, by have := HA.out; rwa [List.take_of_length_le (by rw [List.length_zip]; omega)] at this⟩, List.take_of_length_le (by omega)]
      subst hr
      have HNB := Lib.hid (btrans HB0.out HB.out)
      clear hz
      go_wp2_with fail
      go_ret2
      exact ⟨rfl, HNB.out⟩
end Go.Proofs.YtajnfkmkombajacGreatDoor
namespace Go.Proofs.YtajnfkmkombajacGreatDoor
open Go.RowKit Go.ChangeShapes Go.WideShapes Go.Deep

/-- a line: a word; its numbers, and the slice in which they lie -/
structure LineX where
  word : ByteArray
  ao : Option Addr
  len : Nat
  cap : Nat
  ns : List Int
def LineX.enc (a : LineX) : List Value := [.string a.word, .slice a.ao a.len a.cap]
def LineX.ok (w : World) (a : LineX) : Prop := RdI .i64 w a.ao a.len a.cap a.ns ∧ ∀ n ∈ a.ns, (Lit.int .i64 n).wf = true

set_option maxRecDepth 8000 in
theorem lines_of {H : Type} {enc : TypeId × Value → H} {W : World} {base : Nat} {held : Bool} {ao : Option Addr} {len cap : Nat} {d : DataW H} {p : List MemPlace}
    (h : DataW.Trod enc Tryz.prog W base (fun _ => true) held 92 (.slice ao len cap) d p) : ∃ l, RdR LineX.enc 2 W ao len cap l ∧ ∀ x ∈ l, x.ok W := by
  obtain ⟨fuel, hf⟩ := h
  have hC : Tryz.prog.cellsOf 95 = 2 := by kernel_rfl
  have hI : Tryz.prog.cellsOf 38 = 1 := by kernel_rfl
  have hS : Tryz.prog.cellsOf 9 = 1 := by kernel_rfl
  rcases open_slice Tryz.underlying92 hf with ⟨hcs, _⟩ | ⟨a, l, c, m, n, D, Pl, hcs, _, hl, hm, hmm, _, hall⟩
  · simp [Value.cells] at hcs
    obtain ⟨rfl, rfl, rfl⟩ := hcs
    exact ⟨[], RdR.nil _ _ _, fun x hx => by cases hx⟩
  · simp [Value.cells] at hcs
    obtain ⟨rfl, rfl, rfl⟩ := hcs
    refine RdR.of_cells (Q := LineX.ok W) (by decide) hl hm fun i hi => ?_
    obtain ⟨cs, hc, ht⟩ := hall i (by rw [hmm]; split <;> omega)
    rw [hC] at hc
    obtain ⟨ys, n1, _, _, hlen, hyl, hfs⟩ := DataW.trod_struct Tryz.underlying95 ht
    obtain ⟨_, hcl, hat⟩ := World.cells?_some hc
    rw [hC] at hlen
    have hy : ∀ i, i < ys.length → ∃ y, ys[i]? = some y := fun i hi => ⟨_, List.getElem?_eq_getElem hi⟩
    have hyn : ys.length = 2 := hyl
    obtain ⟨y0, e0⟩ := hy 0 (by omega)
    obtain ⟨y1, e1⟩ := hy 1 (by omega)
    have t0 : DataW.trod enc Tryz.prog W base (fun _ => true) held n1 9 ((cs.drop 0).take (Tryz.prog.cellsOf 9)) = some y0 := (hfs 0 _ rfl).trans e0
    have t1 : DataW.trod enc Tryz.prog W base (fun _ => true) held n1 38 ((cs.drop 1).take (Tryz.prog.cellsOf 38)) = some y1 := (hfs 1 _ rfl).trans e1
    match cs, hlen with
    | [v0, v1], _ =>
      simp only [hI, hS, List.drop_zero, List.drop_succ_cons, List.take_succ_cons, List.take_zero] at t0 t1
      obtain ⟨x0, h0, _, w0⟩ := DataW.trod_string Tryz.underlying9 t0
      obtain rfl : v0 = .string x0 := by simpa using h0
      rcases open_ints Tryz.underlying38 Tryz.underlying3 (by kernel_rfl) t1 with ⟨h1, _⟩ | ⟨x, l1, c1, zs, h1, _, hl1, hm1, hz1, _, hcell, hwz⟩
      · obtain rfl : v1 = .slice none 0 0 := by simpa using h1
        refine ⟨⟨x0, none, 0, 0, []⟩, fun j hj => ?_, by simp [LineX.enc], RdI.nil _ _, fun n hn => by cases hn⟩
        rw [← Go.Deep.add_add, hat j hj]
        rfl
      · obtain rfl : v1 = .slice (some x) l1 c1 := by simpa using h1
        refine ⟨⟨x0, some x, l1, c1, zs.take l1⟩, fun j hj => ?_, by simp [LineX.enc], RdI.of_row (.inr ⟨x, rfl, hl1, hm1, by simpa using hz1, hcell, hwz⟩), fun n hn => hwz n (List.mem_of_mem_take hn)⟩
        rw [← Go.Deep.add_add, hat j hj]
        rfl
end Go.Proofs.YtajnfkmkombajacGreatDoor
