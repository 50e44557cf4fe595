/-
  ScriptPlays: the document's answer to a command: what stands there; whichever command.
  A statement's command line: lineOf.
  A []Line argument of the scripts' laws, opened: it reads as lines: a word, numbers.
  ScriptAgain: the walk.
  Plain: what a line of a command reads as; no answer is empty; a line without a command's word. No program in sight.
  ScriptPlays, plain: a command's line read by a script does what the command does. No program's step in sight.
  ScriptPlays: the document's answer to whichever command; lines and answers beside the document's chain.
-/
import Derived.Test.YtajnfkmkombajaaGreatDoorQSP38
import Derived.Test.YtajnfkmkombajaaGreatDoorQSP36
import Derived.Test.YtajnfkmkombajaaGreatDoorProg
import Derived.Test.YtajnfkmkombajaaGreatDoorQSP02
import Derived.Test.YtajnfkmkombajaaGreatDoorQSP01
import Derived.Laws.AppendOwnNone
import Derived.Test.YtajnfkmkombajaaGreatDoorQSP34
import Derived.Test.YtajnfkmkombajaaGreatDoorQSP33
set_option linter.unusedVariables false
set_option linter.unusedSimpArgs false
set_option linter.unusedVariables false
namespace Go.Proofs.YtajnfkmkombajaaGreatDoor
open Go Go.RowKit Go.Maps
section
variable (cb : Nat) (K : RChL) (sd : Nat) (x : CS) (Z : List (List Int)) (w : World) (wd : ByteArray) (ao : Option Addr) (cap : Nat) (ns : List Int)
set_option maxRecDepth 8000 in
set_option maxHeartbeats 4000000 in
theorem plays_ans12 (h : RChGo w (K.foot cb) cb K sd x Z w) (hx : x.Inv) (hz : PicsOf x Z) (hs : sd < 18446744073709551616) (hW : x.s.W.length ≤ 8000) (hk : x.k.L.length ≤ 1000000) (hcy : x.cycle ≤ 1000000) (hlv : Lv x) (R : RdI .i64 w ao 0 cap ns) (hrf : ∀ b off, ao = some ⟨b, off, none⟩ → 0 < 0 → ¬ K.foot cb b) (hn0 : 0 ≤ ns.getD 0 0) (hw : wd.toList = [115, 117, 112, 112, 108, 121]) :
   Calls Tryz.prog 7 #[.pointer (some ⟨cb, 0, none⟩), .agg #[.string wd, .slice ao 0 cap]] w (PlayPost w (K.foot cb) cb sd (x.cmdOp sd 12 ns)) := by
 obtain ⟨wb, hwb⟩ : ∃ wb, w.alloc (.cells #[.string wd, .slice ao 0 cap] 30) = wb := ⟨_, rfl⟩
 obtain ⟨hp, hg, hb⟩ := pbx_new cb K sd x Z wd ao 0 cap ns w wb _ hwb h R hrf
 have hle := CS.cmd_le x sd 12 ns
 have e6 := hg.c0
 have e7 := hg.ch.purse.c1
 have hlo : 0 ≤ x.p.supply := by have := hx.p.le; have := hx.p.sum_bd; omega
 have hhi : x.p.supply ≤ 9223372036854775807 := Int.le_trans hx.p.most (by decide)
 have HP := Lib.hid hp; have HG := Lib.hid hg; have HB := Lib.hid hb; have HZ := Lib.hid hz; have HX := Lib.hid hx; have HLE := Lib.hid hle
 have HG1 := Lib.hid (hg.drewN 1)
 have HFL := Lib.hid (fun i (q : K.foot cb i) => h.ch.footlt i q)
 have c0 : wb.cell? ⟨w.heap.size, 0, none⟩ = some (.string wd) := hp.c0
 clear h hx hz hp hg hb R hrf hle
 have HD := Lib.hid (fun wx => ref_Decimal _ hlo hhi wx)
 go_enter Tryz.func7, Tryz.ntmps7
 go_wp2_with fail
 refine (HD.out _).mono ?_
 rintro y wa ⟨rfl, k1⟩
 have HD2 := Lib.hid k1; clear k1
 go_wp2_with fail
 go_ret
 exact ⟨rfl, _, _, (HG.out.below HD2.out).since HB.out HFL.out, HZ.out⟩
set_option maxRecDepth 8000 in
set_option maxHeartbeats 4000000 in
theorem plays_ans13 (h : RChGo w (K.foot cb) cb K sd x Z w) (hx : x.Inv) (hz : PicsOf x Z) (hs : sd < 18446744073709551616) (hW : x.s.W.length ≤ 8000) (hk : x.k.L.length ≤ 1000000) (hcy : x.cycle ≤ 1000000) (hlv : Lv x) (R : RdI .i64 w ao 0 cap ns) (hrf : ∀ b off, ao = some ⟨b, off, none⟩ → 0 < 0 → ¬ K.foot cb b) (hn0 : 0 ≤ ns.getD 0 0) (hw : wd.toList = [98, 111, 110, 117, 115]) :
   Calls Tryz.prog 7 #[.pointer (some ⟨cb, 0, none⟩), .agg #[.string wd, .slice ao 0 cap]] w (PlayPost w (K.foot cb) cb sd (x.cmdOp sd 13 ns)) := by
 obtain ⟨wb, hwb⟩ : ∃ wb, w.alloc (.cells #[.string wd, .slice ao 0 cap] 30) = wb := ⟨_, rfl⟩
 obtain ⟨hp, hg, hb⟩ := pbx_new cb K sd x Z wd ao 0 cap ns w wb _ hwb h R hrf
 have hle := CS.cmd_le x sd 13 ns
 have e6 := hg.c6
 have hlo : 0 ≤ x.bonus := hx.b0
 have hhi : x.bonus ≤ 9223372036854775807 := Int.le_trans hx.b1 (by decide)
 have HP := Lib.hid hp; have HG := Lib.hid hg; have HB := Lib.hid hb; have HZ := Lib.hid hz; have HX := Lib.hid hx; have HLE := Lib.hid hle
 have HG1 := Lib.hid (hg.drewN 1)
 have HFL := Lib.hid (fun i (q : K.foot cb i) => h.ch.footlt i q)
 have c0 : wb.cell? ⟨w.heap.size, 0, none⟩ = some (.string wd) := hp.c0
 clear h hx hz hp hg hb R hrf hle
 have HD := Lib.hid (fun wx => ref_Decimal _ hlo hhi wx)
 go_enter Tryz.func7, Tryz.ntmps7
 go_wp2_with fail
 refine (HD.out _).mono ?_
 rintro y wa ⟨rfl, k1⟩
 have HD2 := Lib.hid k1; clear k1
 go_wp2_with fail
 go_ret
 exact ⟨rfl, _, _, (HG.out.below HD2.out).since HB.out HFL.out, HZ.out⟩
set_option maxRecDepth 8000 in
set_option maxHeartbeats 4000000 in
theorem plays_ans14 (h : RChGo w (K.foot cb) cb K sd x Z w) (hx : x.Inv) (hz : PicsOf x Z) (hs : sd < 18446744073709551616) (hW : x.s.W.length ≤ 8000) (hk : x.k.L.length ≤ 1000000) (hcy : x.cycle ≤ 1000000) (hlv : Lv x) (R : RdI .i64 w ao 0 cap ns) (hrf : ∀ b off, ao = some ⟨b, off, none⟩ → 0 < 0 → ¬ K.foot cb b) (hn0 : 0 ≤ ns.getD 0 0) (hw : wd.toList = [97, 116]) :
   Calls Tryz.prog 7 #[.pointer (some ⟨cb, 0, none⟩), .agg #[.string wd, .slice ao 0 cap]] w (PlayPost w (K.foot cb) cb sd (x.cmdOp sd 14 ns)) := by
 obtain ⟨wb, hwb⟩ : ∃ wb, w.alloc (.cells #[.string wd, .slice ao 0 cap] 30) = wb := ⟨_, rfl⟩
 obtain ⟨hp, hg, hb⟩ := pbx_new cb K sd x Z wd ao 0 cap ns w wb _ hwb h R hrf
 have hle := CS.cmd_le x sd 14 ns
 have hl1 := hx.cy; have hl2 := hx.lv
 have hlv2 : x.level ≤ 9223372036854775807 := Int.le_trans hlv (by decide)
 have hcy2 : x.cycle ≤ 9223372036854775807 := Int.le_trans hcy (by decide)
 have hv1 := itoaB_size (v := x.cycle) ⟨by omega, hcy2⟩
 have hv2 := itoaB_size (v := x.level) ⟨by omega, hlv2⟩
 have HP := Lib.hid hp; have HG := Lib.hid hg; have HB := Lib.hid hb; have HZ := Lib.hid hz; have HX := Lib.hid hx; have HLE := Lib.hid hle
 have HG1 := Lib.hid (hg.drewN 1)
 have HFL := Lib.hid (fun i (q : K.foot cb i) => h.ch.footlt i q)
 have c0 : wb.cell? ⟨w.heap.size, 0, none⟩ = some (.string wd) := hp.c0
 clear h hx hz hp hg hb R hrf hle
 have HSB := Lib.hid (fun (wx : World) (k : Below wb.heap.size wb wx) => show wx.cell? ⟨cb, 4, none⟩ = some (.int .i64 x.cycle) ∧ wx.cell? ⟨cb, 5, none⟩ = some (.int .i64 x.level) from ⟨(HG.out.below k).c4, (HG.out.below k).c5⟩)
 have QI1 := Lib.hid (fun wx (q : Below wb.heap.size wb wx) => ref_Decimal _ hl1 hcy2 wx)
 have QI2 := Lib.hid (fun wx (q : Below wb.heap.size wb wx) => ref_Decimal _ hl2 hlv2 wx)
 have HEQ := Lib.hid (show x.cmdOp sd 14 ns = (itoaB x.cycle ++ spB ++ itoaB x.level, 0, x) from rfl)
 rw [HEQ.out]
 clear hlv hcy hl1 hl2 hlv2 hcy2 HEQ
 generalize hxc : x.cycle = v1 at *
 generalize hxl : x.level = v2 at *
 clear hxc hxl
 have hsp : (⟨#[32]⟩ : ByteArray).size = 1 := rfl
 have ha1 : (itoaB v1 ++ (⟨#[32]⟩ : ByteArray)).size = (itoaB v1).size + 1 := by rw [ByteArray.size_append]; rfl
 have ha2 : ¬ (9223372036854775807 < (itoaB v1).size + (⟨#[32]⟩ : ByteArray).size) := by rw [hsp]; omega
 have ha3 : ¬ (9223372036854775807 < (itoaB v1 ++ (⟨#[32]⟩ : ByteArray)).size + (itoaB v2).size) := by rw [ha1]; omega
 have hb2 : ¬ (9223372036854775807 < (itoaB v1).size + 1) := by omega
 have hb3 : ¬ (9223372036854775807 < (itoaB v1).size + 1 + (itoaB v2).size) := by omega
 have hb4 : (9223372036854775807 < (itoaB v1).size + 1) = False := eq_false hb2
 have hb5 : (9223372036854775807 < (itoaB v1).size + 1 + (itoaB v2).size) = False := eq_false hb3
 have hb6 : decide (9223372036854775807 < (itoaB v1).size + 1) = false := decide_eq_false hb2
 have hb7 : decide (9223372036854775807 < (itoaB v1).size + 1 + (itoaB v2).size) = false := decide_eq_false hb3
 have HB1 := Lib.hid (show Below wb.heap.size wb wb.drew from (Below.refl wb.heap.size wb).drewN 1)
 clear ha1 hsp
 go_enter Tryz.func7, Tryz.ntmps7
 go_wp2_with fail
 go_region_held3 (fun w' => w'.cell? ⟨cb, 4, none⟩ = some (.int .i64 v1) ∧ w'.cell? ⟨cb, 5, none⟩ = some (.int .i64 v2)) (first | exact HSB.out _ HB3.out | exact HSB.out _ HB2.out | exact HSB.out _ HB1.out | exact HSB.out _ ((Below.refl wb.heap.size wb).drewN _))
   (first
     | (go_at_call 18; with_reducible refine (QI1.out _ HB1.out).mono ?_; rintro y wc ⟨rfl, b2⟩; have HB2 := Lib.hid (btrans HB1.out b2))
     | (go_at_call 18; with_reducible refine (QI2.out _ HB2.out).mono ?_; rintro y wd ⟨rfl, b3⟩; have HB3 := Lib.hid (btrans HB2.out b3)))
 all_goals
   go_wp2_with fail
   go_ret
   exact ⟨rfl, _, _, (HG.out.below HB3.out).since HB.out HFL.out, HZ.out⟩
set_option maxRecDepth 8000 in
set_option maxHeartbeats 4000000 in
theorem plays_ans8 (h : RChGo w (K.foot cb) cb K sd x Z w) (hx : x.Inv) (hz : PicsOf x Z) (hs : sd < 18446744073709551616) (hW : x.s.W.length ≤ 8000) (hk : x.k.L.length ≤ 1000000) (hcy : x.cycle ≤ 1000000) (hlv : Lv x) (R : RdI .i64 w ao 1 cap ns) (hrf : ∀ b off, ao = some ⟨b, off, none⟩ → 0 < 1 → ¬ K.foot cb b) (hn0 : 0 ≤ ns.getD 0 0) (hw : wd.toList = [104, 97, 115]) :
   Calls Tryz.prog 7 #[.pointer (some ⟨cb, 0, none⟩), .agg #[.string wd, .slice ao 1 cap]] w (PlayPost w (K.foot cb) cb sd (x.cmdOp sd 8 ns)) := by
 obtain ⟨wb, hwb⟩ : ∃ wb, w.alloc (.cells #[.string wd, .slice ao 1 cap] 30) = wb := ⟨_, rfl⟩
 obtain ⟨hp, hg, hb⟩ := pbx_new cb K sd x Z wd ao 1 cap ns w wb _ hwb h R hrf
 have hle := CS.cmd_le x sd 8 ns
 have q0 := hg.c0; have q1 := hg.ch.purse.c0
 have HPU := Lib.hid hg.ch.purse
 have HSS := Lib.hid (hx.p)
 obtain ⟨b, off, rfl, -⟩ := R.cells 0 (by decide)
 have HP := Lib.hid hp; have HG := Lib.hid hg; have HB := Lib.hid hb; have HZ := Lib.hid hz; have HX := Lib.hid hx; have HLE := Lib.hid hle
 have HG1 := Lib.hid (hg.drewN 1)
 have HFL := Lib.hid (fun i (q : K.foot cb i) => h.ch.footlt i q)
 have c0 : wb.cell? ⟨w.heap.size, 0, none⟩ = some (.string wd) := hp.c0
 have HC := Lib.hid (fun (wx : World) (K' : RChL) (y : CS) (Z' : List (List Int)) (q : RChGo wb (K.foot cb) cb K' sd y Z' wx) => show wx.cell? ⟨w.heap.size, 1, none⟩ = some (.slice (some ⟨b, off, none⟩) 1 cap) ∧ wx.cell? ⟨b, off, none⟩ = some (.int .i64 (ns.getD 0 0)) from by
   exact ⟨HP.out.b1 q.keep, by simpa using HP.out.n q.keep 0 (by decide)⟩)
 clear h hx hz hp hg hb R hrf hle
 obtain ⟨e1, e2⟩ := HC.out _ _ _ _ HG.out
 have HEQ := Lib.hid (show x.cmdOp sd 8 ns = (itoaB (if ownB (ns.getD 0 0) then x.p.at (ns.getD 0 0) else 0), 0, x) from rfl)
 rw [HEQ.out]
 clear HEQ HLE
 generalize ns.getD 0 0 = n at *
 obtain ⟨k, rfl⟩ := Int.eq_ofNat_of_zero_le hn0
 clear hn0
 by_cases h6 : k < 6
 · have t1 : decide ((6 : Int) ≤ (k : Int)) = false := decide_eq_false (by omega)
   have t1' : decide (6 ≤ k) = false := decide_eq_false (by omega)
   have t2 : (k : Int) < 6 := by omega
   have t3 : (0 : Int) ≤ (k : Int) := by omega
   have q2 := HPU.out.hc h6
   have hbd := HPU.out.ok.at_bd (k : Int)
   have HD := Lib.hid (fun wx => ref_Decimal (x.p.at (k : Int)) hbd.1 (by have := hbd.2; have := HSS.out.le; have := HSS.out.most; omega) wx)
   rw [show ownB (k : Int) = true by unfold ownB; simp; omega, if_pos rfl]
   have HSB := Lib.hid (fun (wx : World) (q : Below wb.heap.size wb wx) => show wx.cell? ⟨w.heap.size, 1, none⟩ = some (.slice (some ⟨b, off, none⟩) 1 cap) ∧ wx.cell? ⟨b, off, none⟩ = some (.int .i64 (k : Int)) ∧ wx.cell? ⟨cb, 0, none⟩ = some (.pointer (some ⟨K.pb, 0, none⟩)) ∧ wx.cell? ⟨K.pb, 0, none⟩ = some (.slice (some ⟨K.hb, 0, none⟩) 6 6) ∧ wx.cell? ⟨K.hb, k, none⟩ = some (.int .i64 (x.p.at (k : Int))) from
     ⟨(HC.out _ _ _ _ (HG.out.below q)).1, (HC.out _ _ _ _ (HG.out.below q)).2, (HG.out.below q).c0, (HG.out.below q).ch.purse.c0, (HG.out.below q).ch.purse.hc h6⟩)
   have HB1 := Lib.hid ((Below.refl wb.heap.size wb).drewN 1)
   generalize x.p.at (k : Int) = v at *
   clear hbd q2 HPU
   go_enter Tryz.func7, Tryz.ntmps7
   go_wp2_with fail
   go_region_held3 (fun w' => w'.cell? ⟨w.heap.size, 1, none⟩ = some (.slice (some ⟨b, off, none⟩) 1 cap) ∧ w'.cell? ⟨b, off, none⟩ = some (.int .i64 (k : Int)) ∧ w'.cell? ⟨cb, 0, none⟩ = some (.pointer (some ⟨K.pb, 0, none⟩)) ∧ w'.cell? ⟨K.pb, 0, none⟩ = some (.slice (some ⟨K.hb, 0, none⟩) 6 6) ∧ w'.cell? ⟨K.hb, k, none⟩ = some (.int .i64 v)) (first | exact HSB.out _ HD2.out | exact HSB.out _ HB1.out | exact HSB.out _ ((Below.refl wb.heap.size wb).drewN _))
     (first
       | (go_at_call 18; refine (HD.out _).mono ?_; rintro y wa ⟨rfl, k1⟩; have HD2 := Lib.hid (btrans HB1.out k1)))
   all_goals
     go_wp2_with fail
     go_ret
     exact ⟨rfl, _, _, (HG.out.below HD2.out).since HB.out HFL.out, HZ.out⟩
 · have t1 : decide ((6 : Int) ≤ (k : Int)) = true := decide_eq_true (by omega)
   have t1' : decide (6 ≤ k) = true := decide_eq_true (by omega)
   rw [show ownB (k : Int) = false by unfold ownB; simp; omega, if_neg (by decide), show itoaB 0 = (⟨#[48]⟩ : ByteArray) from by rw [show (0 : Int) = ((0 : Nat) : Int) from rfl, itoaB_nat, dd_small 0 (by decide)]; rfl]
   clear h6
   go_enter Tryz.func7, Tryz.ntmps7
   go_wp2_with fail
   go_ret
   exact ⟨rfl, _, _, HG.out.since HB.out HFL.out, HZ.out⟩
end
end Go.Proofs.YtajnfkmkombajaaGreatDoor
namespace Go.Proofs.YtajnfkmkombajaaGreatDoor
open Go Go.RowKit Go.Maps
def fitB (c : UInt8) (n : Int) : Bool := decide (0 ≤ n) && decide (n ≤ if c = 100 then 9 else 9999999)
def lineT (wd : ByteArray) (ns : List Int) : ByteArray := ns.foldl (fun s n => s ++ spB ++ itoaB n) wd
def lineB (wd : ByteArray) (ns : List Int) : Option ByteArray :=
 if (cmdOf wd.data.toList).isSome = true ∧ ns.length = (formT (cmdOf wd.data.toList)).length ∧ ((formT (cmdOf wd.data.toList)).zip ns).all (fun p => fitB p.1 p.2) = true then some (lineT wd ns) else none
def lineV (o : Option ByteArray) : Value := .tuple #[.string (o.getD ⟨#[]⟩), .bool o.isSome]
theorem lineT_snoc (wd : ByteArray) (ns : List Int) (n : Int) : lineT wd (ns ++ [n]) = lineT wd ns ++ spB ++ itoaB n := by unfold lineT; rw [List.foldl_append]; rfl
theorem cmdForm_len (i : Nat) : (cmdForm i).length ≤ 4 := by
 rcases Nat.lt_or_ge i 15 with h | h
 · have : ∀ j, j < 15 → (cmdForm j).length ≤ 4 := by decide
   exact this i h
 · unfold cmdForm; rw [List.getD_eq_getElem?_getD, List.getElem?_eq_none h]; decide
theorem formT_len (c : Option Nat) : (formT c).length ≤ 4 := by
 cases c with
 | none => decide
 | some i => exact cmdForm_len i
theorem lineT_size (wd : ByteArray) : ∀ (ns : List Int), (∀ n ∈ ns, 0 ≤ n ∧ n ≤ 9223372036854775807) → (lineT wd ns).size ≤ wd.size + 22 * ns.length := by
 intro ns
 induction ns generalizing wd with
 | nil => intro _; exact Nat.le_refl _
 | cons n ns ih =>
   intro h
   have := ih (wd ++ spB ++ itoaB n) (fun x hx => h x (List.mem_cons_of_mem _ hx))
   have h1 := h n (by simp)
   have h2 := itoaB_size (v := n) ⟨by omega, h1.2⟩
   have h3 : (wd ++ spB ++ itoaB n).size = wd.size + 1 + (itoaB n).size := by rw [ByteArray.size_append, ByteArray.size_append]; rfl
   show (lineT (wd ++ spB ++ itoaB n) ns).size ≤ _
   simp only [List.length_cons]
   omega
theorem lineB_size {wd : ByteArray} {ns : List Int} {s : ByteArray} (h : lineB wd ns = some s) (hw : wd.size ≤ 60) (hn : ∀ n ∈ ns, 0 ≤ n ∧ n ≤ 9223372036854775807) : s.size ≤ 100000 := by
 unfold lineB at h
 split at h
 · next hc =>
   cases h
   have := lineT_size wd ns hn
   have := formT_len (cmdOf wd.data.toList)
   omega
 · cases h
set_option maxRecDepth 8000 in
set_option maxHeartbeats 1000000 in
theorem law_lineOf (wd : ByteArray) (ao : Option Addr) (len cap : Nat) (ns : List Int) (w : World) (R : RdI .i64 w ao len cap ns) (hw : wd.size ≤ 60) (hn : ∀ n ∈ ns, n ≤ 9223372036854775807) :
   Calls Tryz.prog 6 #[.agg #[.string wd, .slice ao len cap]] w fun e w' => e = .returned (lineV (lineB wd ns)) ∧ Below w.heap.size w w' := by
 obtain ⟨wb, hwb⟩ : ∃ wb, w.alloc (.cells #[.string wd, .slice ao len cap] 30) = wb := ⟨_, rfl⟩
 have b0 : Below w.heap.size w wb := by rw [← hwb]; exact (Below.refl _ _).alloc (Nat.le_refl _) _
 have hlt : w.heap.size < wb.heap.size := by rw [← hwb]; simp
 have c0 : wb.cell? ⟨w.heap.size, 0, none⟩ = some (.string wd) := by rw [← hwb]; unfold World.cell?; rw [heap_alloc_new]; simp
 have c1 : wb.cell? ⟨w.heap.size, 1, none⟩ = some (.slice ao len cap) := by rw [← hwb]; unfold World.cell?; rw [heap_alloc_new]; simp
 have HC := Lib.hid (fun wx (k : Below wb.heap.size wb wx) => show wx.cell? ⟨w.heap.size, 0, none⟩ = some (.string wd) ∧ wx.cell? ⟨w.heap.size, 1, none⟩ = some (.slice ao len cap) ∧ RdI .i64 wx ao len cap ns from
   ⟨by rw [k.cell hlt]; exact c0, by rw [k.cell hlt]; exact c1, (R.below b0).below k⟩)
 have HB0 := Lib.hid b0
 have HFO := Lib.hid (fun wx => law_formOf wd wx)
 have hfl := formT_len (cmdOf wd.data.toList)
 have HIX := Lib.hid (fun j c (hc : (formT (cmdOf wd.data.toList))[j]? = some c) wx => str_index (formT (cmdOf wd.data.toList)) (by omega) j c hc wx)
 have HLB := Lib.hid (show lineB wd ns = if (cmdOf wd.data.toList).isSome = true ∧ ns.length = (formT (cmdOf wd.data.toList)).length ∧ ((formT (cmdOf wd.data.toList)).zip ns).all (fun p => fitB p.1 p.2) = true then some (lineT wd ns) else none from rfl)
 have hfs := bstr_size (formT (cmdOf wd.data.toList))
 have hsz := R.size
 have HN := Lib.hid hn
 generalize formT (cmdOf wd.data.toList) = fl at *
 generalize (cmdOf wd.data.toList).isSome = is at *
 generalize lineB wd ns = res at *
 clear c0 c1 R hn
 generalize hf : bstr fl = form at *
 clear hf
 cases is with
 | false =>
   have hr : res = none := by rw [HLB.out, if_neg (by simp)]
   subst hr
   clear HLB HIX hfl hfs hsz HN
   have c := HC.out _ (Below.refl _ _)
   obtain ⟨c0, c1, -⟩ := c
   go_enter Tryz.func6, Tryz.ntmps6
   go_wp2_with fail
   refine (HFO.out _).mono ?_
   rintro e w1 ⟨rfl, rfl⟩
   go_wp2_with fail
   go_ret2
   exact ⟨rfl, HB0.out⟩
 | true =>
 by_cases hlen : len = fl.length
 case neg =>
   have hr : res = none := by rw [HLB.out, if_neg (by rw [hsz]; simp [hlen])]
   subst hr
   have ne : ((len : Int) != (form.size : Int)) = true := by rw [hfs]; simp; omega
   clear HLB HIX hfl hfs hsz HN hlen
   obtain ⟨c0, c1, -⟩ := HC.out _ (Below.refl _ _)
   go_enter Tryz.func6, Tryz.ntmps6
   go_wp2_with fail
   refine (HFO.out _).mono ?_
   rintro e w1 ⟨rfl, rfl⟩
   go_wp2_with fail
   go_ret2
   exact ⟨rfl, HB0.out⟩
 case pos =>
 have ne : ((len : Int) != (form.size : Int)) = false := by rw [hfs]; simp; omega
 have HL := Lib.hid hlen
 have HS := Lib.hid hsz
 have HFS := Lib.hid hfs
 have HW := Lib.hid hw
 have hl4 : len ≤ 4 := by omega
 clear hfl hfs hsz hlen hw
 obtain ⟨c0, c1, -⟩ := HC.out _ (Below.refl _ _)
 go_enter Tryz.func6, Tryz.ntmps6
 go_wp2_with fail
 refine (HFO.out _).mono ?_
 rintro e w1 ⟨rfl, rfl⟩
 go_wp2_with fail
 go_loopg [6, 7] len (fun g out i wr => ∃ (j : Nat), g + j = len ∧ i = .int .i64 j ∧ out = .string (lineT wd (ns.take j)) ∧ ((fl.zip ns).take j).all (fun p => fitB p.1 p.2) = true ∧ (lineT wd (ns.take j)).size ≤ 60 + 22 * j ∧ Below wb.heap.size wb wr)
 case atStart => exact ⟨0, rfl, rfl, rfl, rfl, HW.out, Below.refl _ _⟩
 case round =>
   clear c0 c1
   obtain ⟨j, hg, rfl, rfl, hall, hsz, hb⟩ := hrel
   have HG := Lib.hid hg; have HA := Lib.hid hall; have HB := Lib.hid hb; have HSZ := Lib.hid hsz
   clear hg hall hb hsz
   obtain ⟨c0, c1, RR⟩ := HC.out _ HB.out
   by_cases hlt : j < len
   · obtain ⟨b, off, rfl, hcell⟩ := RR.cells j hlt
     obtain ⟨c, hc⟩ : ∃ c, fl[j]? = some c := ⟨_, List.getElem?_eq_getElem (by have := HL.out; omega)⟩
     obtain ⟨x, hx⟩ : ∃ x, ns[j]? = some x := ⟨_, List.getElem?_eq_getElem (by have := HS.out; omega)⟩
     rw [List.getD_eq_getElem?_getD, hx] at hcell
     simp only [Option.getD_some] at hcell
     have hidx := HIX.out j c hc
     have hx63 := HN.out x (List.mem_of_getElem? hx)
     have hzz : (fl.zip ns)[j]? = some (c, x) := by rw [List.getElem?_zip_eq_some]; exact ⟨hc, hx⟩
     have HZM := Lib.hid (show fitB c x = false → res = none from fun e => by
       rw [HLB.out, if_neg]
       rintro ⟨-, -, q⟩
       have := List.all_eq_true.1 q (c, x) (List.mem_of_getElem? hzz)
       rw [e] at this; cases this)
     have HST := Lib.hid (show lineT wd (ns.take (j + 1)) = lineT wd (ns.take j) ++ spB ++ itoaB x ∧ ((fl.zip ns).take (j + 1)) = (fl.zip ns).take j ++ [(c, x)] from
       ⟨by rw [List.take_add_one, hx]; exact lineT_snoc _ _ _, by rw [List.take_add_one, hzz]; rfl⟩)
     clear hzz hc hx RR
     have h100 : ((c.toNat : Int) == 100) = decide (c = 100) := by
       rw [Bool.eq_iff_iff]; simp only [beq_iff_eq, decide_eq_true_eq]
       constructor
       · intro e; exact UInt8.toNat_inj.1 (by rw [show c.toNat = 100 by omega]; rfl)
       · intro e; subst e; rfl
     generalize hci : (c.toNat : Int) = ci at *
     clear hci
     generalize lineT wd (ns.take j) = tx at *
     have hsp : (⟨#[32]⟩ : ByteArray) = spB := rfl
     by_cases hx0 : x < 0
     · have d0 : decide (x < 0) = true := decide_eq_true hx0
       have hr : res = none := HZM.out (by unfold fitB; rw [decide_eq_false (by omega)]; rfl)
       subst hr
       have HNB := Lib.hid (btrans HB0.out HB.out)
       clear hx0 HZM HST
       by_cases hcc : c = 100
       all_goals
         first | rw [decide_eq_true hcc] at h100 | rw [decide_eq_false hcc] at h100
         clear hcc
         go_wp2_with fail
         go_ret2
         exact ⟨rfl, HNB.out⟩
     · have d0 : decide (x < 0) = false := decide_eq_false hx0
       have hx0 : 0 ≤ x := by omega
       have HDE := Lib.hid (fun wx => ref_Decimal x hx0 hx63 wx)
       have hds := itoaB_size (v := x) ⟨by omega, hx63⟩
       have htz := HSZ.out
       have hb1 : ¬ (9223372036854775807 < tx.size + 1) := by omega
       have hb2 : ¬ (9223372036854775807 < tx.size + 1 + (itoaB x).size) := by omega
       have hb3 : ¬ (9223372036854775807 < (tx ++ (⟨#[32]⟩ : ByteArray)).size + (itoaB x).size) := by rw [ByteArray.size_append]; exact hb2
       have HZ2 := Lib.hid (show (tx ++ spB ++ itoaB x).size ≤ 60 + 22 * (j + 1) by
         have : (tx ++ spB ++ itoaB x).size = tx.size + 1 + (itoaB x).size := by rw [ByteArray.size_append, ByteArray.size_append]; rfl
         omega)
       have HFT := Lib.hid (show fitB c x = decide (x ≤ if c = 100 then 9 else 9999999) by unfold fitB; rw [decide_eq_true hx0]; rfl)
       clear hds htz hx63 hx0
       generalize itoaB x = dg at *
       by_cases hcc : c = 100
       · rw [decide_eq_true hcc] at h100
         rw [if_pos hcc] at HFT
         clear hcc
         by_cases h9 : 9 < x
         · have d9 : decide (9 < x) = true := decide_eq_true h9
           have hr : res = none := HZM.out (by rw [HFT.out]; exact decide_eq_false (by omega))
           subst hr
           have HNB := Lib.hid (btrans HB0.out HB.out)
           clear h9 HZM HST HFT
           go_wp2_with fail
           go_ret2
           exact ⟨rfl, HNB.out⟩
         · have d9 : decide (9 < x) = false := decide_eq_false h9
           have HF := Lib.hid (show fitB c x = true by rw [HFT.out]; exact decide_eq_true (by omega))
           clear h9 HFT HZM
           go_wp2_with fail
           refine (HDE.out _).mono ?_
           rintro e w2 ⟨rfl, b2⟩
           have HB2 := Lib.hid (btrans HB.out b2)
           clear b2
           go_wp2_with fail
           have hg := HG.out
           go_roundg (len - (j + 1))
           case measure => omega
           case rel => exact ⟨j + 1, by omega, by go_num, by rw [HST.out.1], by rw [HST.out.2, List.all_append, HA.out]; simpa using HF.out, by rw [HST.out.1]; exact HZ2.out, HB2.out⟩
       · rw [decide_eq_false hcc] at h100
         rw [if_neg hcc] at HFT
         clear hcc
         by_cases h9 : 9999999 < x
         · have d9 : decide (9999999 < x) = true := decide_eq_true h9
           have hr : res = none := HZM.out (by rw [HFT.out]; exact decide_eq_false (by omega))
           subst hr
           have HNB := Lib.hid (btrans HB0.out HB.out)
           clear h9 HZM HST HFT
           go_wp2_with fail
           go_ret2
           exact ⟨rfl, HNB.out⟩
         · have d9 : decide (9999999 < x) = false := decide_eq_false h9
           have HF := Lib.hid (show fitB c x = true by rw [HFT.out]; exact decide_eq_true (by omega))
           clear h9 HFT HZM
           go_wp2_with fail
           refine (HDE.out _).mono ?_
           rintro e w2 ⟨rfl, b2⟩
           have HB2 := Lib.hid (btrans HB.out b2)
           clear b2
           go_wp2_with fail
           have hg := HG.out
           go_roundg (len - (j + 1))
           case measure => omega
           case rel => exact ⟨j + 1, by omega, by go_num, by rw [HST.out.1], by rw [HST.out.2, List.all_append, HA.out]; simpa using HF.out, by rw [HST.out.1]; exact HZ2.out, HB2.out⟩
   · have hjl : j = len := by have := HG.out; omega
     subst hjl
     have hz := HS.out
     have hr : res = some (lineT wd (ns.take j)) := by
       rw [HLB.out, if_pos ⟨trivial, by rw [hz]; exact HL.out, by have := HA.out; rwa [List.take_of_length_le (by rw [List.length_zip]; omega)] at this⟩, List.take_of_length_le (by omega)]
     subst hr
     have HNB := Lib.hid (btrans HB0.out HB.out)
     clear hz
     go_wp2_with fail
     go_ret2
     exact ⟨rfl, HNB.out⟩
end Go.Proofs.YtajnfkmkombajaaGreatDoor
namespace Go.Proofs.YtajnfkmkombajaaGreatDoor
open Go.RowKit Go.ChangeShapes Go.WideShapes Go.Deep
structure LineX where
 word : ByteArray
 ao : Option Addr
 len : Nat
 cap : Nat
 ns : List Int
def LineX.enc (a : LineX) : List Value := [.string a.word, .slice a.ao a.len a.cap]
def LineX.ok (w : World) (a : LineX) : Prop := RdI .i64 w a.ao a.len a.cap a.ns ∧ ∀ n ∈ a.ns, (Lit.int .i64 n).wf = true
set_option maxRecDepth 8000 in
theorem lines_of {H : Type} {enc : TypeId × Value → H} {W : World} {base : Nat} {held : Bool} {ao : Option Addr} {len cap : Nat} {d : DataW H} {p : List MemPlace}
   (h : DataW.Trod enc Tryz.prog W base (fun _ => true) held 23 (.slice ao len cap) d p) : ∃ l, RdR LineX.enc 2 W ao len cap l ∧ ∀ x ∈ l, x.ok W := by
 obtain ⟨fuel, hf⟩ := h
 have hC : Tryz.prog.cellsOf 30 = 2 := by kernel_rfl
 have hI : Tryz.prog.cellsOf 28 = 1 := by kernel_rfl
 have hS : Tryz.prog.cellsOf 9 = 1 := by kernel_rfl
 rcases open_slice Tryz.underlying23 hf with ⟨hcs, _⟩ | ⟨a, l, c, m, n, D, Pl, hcs, _, hl, hm, hmm, _, hall⟩
 · simp [Value.cells] at hcs
   obtain ⟨rfl, rfl, rfl⟩ := hcs
   exact ⟨[], RdR.nil _ _ _, fun x hx => by cases hx⟩
 · simp [Value.cells] at hcs
   obtain ⟨rfl, rfl, rfl⟩ := hcs
   refine RdR.of_cells (Q := LineX.ok W) (by decide) hl hm fun i hi => ?_
   obtain ⟨cs, hc, ht⟩ := hall i (by rw [hmm]; split <;> omega)
   rw [hC] at hc
   obtain ⟨ys, n1, _, _, hlen, hyl, hfs⟩ := DataW.trod_struct Tryz.underlying30 ht
   obtain ⟨_, hcl, hat⟩ := World.cells?_some hc
   rw [hC] at hlen
   have hy : ∀ i, i < ys.length → ∃ y, ys[i]? = some y := fun i hi => ⟨_, List.getElem?_eq_getElem hi⟩
   have hyn : ys.length = 2 := hyl
   obtain ⟨y0, e0⟩ := hy 0 (by omega)
   obtain ⟨y1, e1⟩ := hy 1 (by omega)
   have t0 : DataW.trod enc Tryz.prog W base (fun _ => true) held n1 9 ((cs.drop 0).take (Tryz.prog.cellsOf 9)) = some y0 := (hfs 0 _ rfl).trans e0
   have t1 : DataW.trod enc Tryz.prog W base (fun _ => true) held n1 28 ((cs.drop 1).take (Tryz.prog.cellsOf 28)) = some y1 := (hfs 1 _ rfl).trans e1
   match cs, hlen with
   | [v0, v1], _ =>
     simp only [hI, hS, List.drop_zero, List.drop_succ_cons, List.take_succ_cons, List.take_zero] at t0 t1
     obtain ⟨x0, h0, _, w0⟩ := DataW.trod_string Tryz.underlying9 t0
     obtain rfl : v0 = .string x0 := by simpa using h0
     rcases open_ints Tryz.underlying28 Tryz.underlying3 (by kernel_rfl) t1 with ⟨h1, _⟩ | ⟨x, l1, c1, zs, h1, _, hl1, hm1, hz1, _, hcell, hwz⟩
     · obtain rfl : v1 = .slice none 0 0 := by simpa using h1
       refine ⟨⟨x0, none, 0, 0, []⟩, fun j hj => ?_, by simp [LineX.enc], RdI.nil _ _, fun n hn => by cases hn⟩
       rw [← Go.Deep.add_add, hat j hj]
       rfl
     · obtain rfl : v1 = .slice (some x) l1 c1 := by simpa using h1
       refine ⟨⟨x0, some x, l1, c1, zs.take l1⟩, fun j hj => ?_, by simp [LineX.enc], RdI.of_row (.inr ⟨x, rfl, hl1, hm1, by simpa using hz1, hcell, hwz⟩), fun n hn => hwz n (List.mem_of_mem_take hn)⟩
       rw [← Go.Deep.add_add, hat j hj]
       rfl
end Go.Proofs.YtajnfkmkombajaaGreatDoor
namespace Go.Proofs.YtajnfkmkombajaaGreatDoor
open Go Go.RowKit Go.Maps
end Go.Proofs.YtajnfkmkombajaaGreatDoor
namespace Go.Proofs.YtajnfkmkombajaaGreatDoor
open Go Go.RowKit
theorem digits_nosp (u : Nat) : (32 : UInt8) ∉ Lib.decDigits u := fun h => by
 have := (digits_mem u 32 h).1
 exact absurd this (by decide)
def lineL (wd : List UInt8) (ns : List Nat) : List UInt8 := ns.foldl (fun s n => s ++ 32 :: Lib.decDigits n) wd
theorem lineL_join : ∀ (ns : List Nat) (wd : List (List UInt8)), wd ≠ [] → lineL (joinSp wd) ns = joinSp (wd ++ ns.map Lib.decDigits)
 | [], wd, _ => by simp [lineL]
 | n :: ns, wd, h => by
   have := lineL_join ns (wd ++ [Lib.decDigits n]) (by simp)
   rw [joinSp_snoc wd _ h] at this
   show lineL (joinSp wd ++ 32 :: Lib.decDigits n) ns = _
   rw [this, List.append_assoc]
   rfl
theorem splitSp_lineL (wd : List UInt8) (ns : List Nat) (h : (32 : UInt8) ∉ wd) : splitSp (lineL wd ns) = wd :: ns.map Lib.decDigits := by
 rw [show lineL wd ns = lineL (joinSp [wd]) ns from rfl, lineL_join ns [wd] (by simp)]
 rw [splitSp_join _ (by simp) (fun x hx => by
   rcases List.mem_append.1 hx with q | q
   · obtain rfl := List.mem_singleton.1 q; exact h
   · obtain ⟨u, -, rfl⟩ := List.mem_map.1 q; exact digits_nosp u)]
 rfl
theorem cmdWord_nosp {w : List UInt8} {i : Nat} (h : cmdOf w = some i) : (32 : UInt8) ∉ w := by
 unfold cmdOf at h
 obtain ⟨hi, hp, -⟩ := List.findIdx?_eq_some_iff_getElem.1 h
 have he : cmdWords[i] = w := by simpa using hp
 have hm : w ∈ cmdWords := by rw [← he]; exact List.getElem_mem hi
 have : ∀ x ∈ cmdWords, (32 : UInt8) ∉ x := by decide
 exact this w hm
theorem lineOp_lineL (x : CS) (sd : Nat) {wd : List UInt8} {ns : List Nat} {i : Nat} (hw : cmdOf wd = some i) (hl : (cmdForm i).length = ns.length) (hp : ∀ p ∈ (cmdForm i).zip ns, p.2 ≤ 9999999 ∧ (p.1 = 100 → p.2 ≤ 9)) :
   x.lineOp sd (bstr (lineL wd ns)) = x.cmdOp sd i (ns.map (fun u : Nat => (u : Int))) :=
 lineOp_of x sd (splitSp_lineL wd ns (cmdWord_nosp hw)) hw (readB_digits hl hp)
/-! ### no answer is empty -/
end Go.Proofs.YtajnfkmkombajaaGreatDoor
namespace Go.Proofs.YtajnfkmkombajaaGreatDoor
open Go Go.RowKit Go.Maps
theorem bstr_app (a b : List UInt8) : bstr (a ++ b) = bstr a ++ bstr b := by
 apply Go.WideShapes.bytes_inj
 simp [bstr]
theorem lineT_lineL : ∀ (us : List Nat) (l : List UInt8), lineT (bstr l) (us.map (fun u : Nat => (u : Int))) = bstr (lineL l us)
 | [], _ => rfl
 | u :: us, l => by
   have e : bstr l ++ spB ++ itoaB (u : Int) = bstr (l ++ 32 :: Lib.decDigits u) := by
     rw [itoaB_nat, show l ++ 32 :: Lib.decDigits u = (l ++ [32]) ++ Lib.decDigits u by simp, bstr_app, bstr_app]
     rfl
   have := lineT_lineL us (l ++ 32 :: Lib.decDigits u)
   rw [← e] at this
   exact this
theorem lineB_cmd {wd : ByteArray} {ns : List Int} {s : ByteArray} (h : lineB wd ns = some s) : ∃ i, cmdOf wd.data.toList = some i ∧ ns.length = (cmdForm i).length ∧ s = lineT wd ns ∧ ∀ p ∈ (cmdForm i).zip ns, 0 ≤ p.2 ∧ p.2 ≤ (if p.1 = 100 then 9 else 9999999) := by
 unfold lineB at h
 split at h
 · next hc =>
   obtain ⟨h1, h2, h3⟩ := hc
   obtain ⟨i, hi⟩ := Option.isSome_iff_exists.1 h1
   rw [hi] at h2 h3
   cases h
   refine ⟨i, hi, h2, rfl, fun p hp => ?_⟩
   have := List.all_eq_true.1 h3 p hp
   unfold fitB at this
   simpa only [Bool.and_eq_true, decide_eq_true_eq] using this
 · cases h
theorem lineB_pos {wd : ByteArray} {ns : List Int} {s : ByteArray} (h : lineB wd ns = some s) : ∀ n ∈ ns, 0 ≤ n := by
 obtain ⟨i, -, hl, -, hp⟩ := lineB_cmd h
 intro n hn
 obtain ⟨j, hj⟩ := List.getElem?_of_mem hn
 have hjl : j < ns.length := (List.getElem?_eq_some_iff.1 hj).1
 obtain ⟨c, hc⟩ : ∃ c, (cmdForm i)[j]? = some c := ⟨_, List.getElem?_eq_getElem (by omega)⟩
 exact (hp (c, n) (List.mem_of_getElem? (i := j) (by rw [List.getElem?_zip_eq_some]; exact ⟨hc, hj⟩))).1
theorem nats_of : ∀ (ns : List Int), (∀ n ∈ ns, 0 ≤ n) → ns = (ns.map Int.toNat).map (fun u : Nat => (u : Int))
 | [], _ => rfl
 | n :: ns, h => by
   have h0 := h n (by simp)
   have ih := nats_of ns (fun m hm => h m (by simp [hm]))
   simp only [List.map_cons]
   rw [← ih, show ((n.toNat : Nat) : Int) = n by omega]
theorem line_says (x : CS) (sd : Nat) {wd : ByteArray} {ns : List Int} {s : ByteArray} {i : Nat} (h : lineB wd ns = some s) (hi : cmdOf wd.data.toList = some i) :
   x.lineOp sd s = x.cmdOp sd i ns ∧ x.lineA sd s = tellB (x.cmdOp sd i ns).2.1 (x.cmdOp sd i ns).1 := by
 have hpos := lineB_pos h
 obtain ⟨i', hi', hl, rfl, hp⟩ := lineB_cmd h
 obtain rfl : i' = i := Option.some.inj (hi'.symm.trans hi)
 have hn := nats_of ns hpos
 have key : x.lineOp sd (lineT wd ns) = x.cmdOp sd i' ns := by
   conv => lhs; rw [hn]
   rw [show wd = bstr wd.data.toList from (bstr_toList wd).symm, lineT_lineL]
   rw [lineOp_lineL x sd hi (by simp [hl]) ?_, ← hn]
   intro p hp'
   obtain ⟨j, hj⟩ := List.getElem?_of_mem hp'
   rw [List.getElem?_zip_eq_some] at hj
   obtain ⟨j1, j2⟩ := hj
   rw [List.getElem?_map] at j2
   obtain ⟨n, j3, j4⟩ := Option.map_eq_some_iff.1 j2
   have q := hp (p.1, n) (List.mem_of_getElem? (i := j) (by rw [List.getElem?_zip_eq_some]; exact ⟨j1, j3⟩))
   simp only at q
   obtain ⟨q0, q1⟩ := q
   split at q1
   · next e => exact ⟨by omega, fun _ => by omega⟩
   · next e => exact ⟨by omega, fun e' => absurd e' e⟩
 refine ⟨key, ?_⟩
 unfold CS.lineA
 rw [key]
 rfl
end Go.Proofs.YtajnfkmkombajaaGreatDoor
namespace Go.Proofs.YtajnfkmkombajaaGreatDoor
open Go Go.RowKit Go.Maps
theorem plays_answer (cb : Nat) (K : RChL) (sd : Nat) (x : CS) (Z : List (List Int)) (w : World) (wd : ByteArray) (ao : Option Addr) (len cap : Nat) (ns : List Int) (i : Nat) (s : ByteArray)
   (h : RChGo w (K.foot cb) cb K sd x Z w) (hx : x.Inv) (hz : PicsOf x Z) (hs : sd < 18446744073709551616) (hW : x.s.W.length ≤ 8000) (hk : x.k.L.length ≤ 1000000) (hcy : x.cycle ≤ 1000000) (hlv : Lv x) (R : RdI .i64 w ao len cap ns)
   (hrf : ∀ b off, ao = some ⟨b, off, none⟩ → 0 < len → ¬ K.foot cb b) (hl : lineB wd ns = some s) (hi : cmdOf wd.data.toList = some i) :
   Calls Tryz.prog 7 #[.pointer (some ⟨cb, 0, none⟩), .agg #[.string wd, .slice ao len cap]] w (PlayPost w (K.foot cb) cb sd (x.cmdOp sd i ns)) := by
 have hpos := lineB_pos hl
 obtain ⟨i', hi', hlen, -, -⟩ := lineB_cmd hl
 obtain rfl : i' = i := Option.some.inj (hi'.symm.trans hi)
 rw [R.size] at hlen
 have hn0 : 0 ≤ ns.getD 0 0 := by
   cases ns with
   | nil => exact Int.le_refl _
   | cons n l => exact hpos n (by simp)
 have hw : wd.toList = cmdWords.getD i' [] ∧ i' < 15 := by
   unfold cmdOf at hi
   obtain ⟨hlt, hp, -⟩ := List.findIdx?_eq_some_iff_getElem.1 hi
   refine ⟨?_, hlt⟩
   rw [ByteArray.toList_eq, List.getD_eq_getElem?_getD, List.getElem?_eq_getElem hlt]
   exact (show cmdWords[i'] = wd.data.toList by simpa using hp).symm
 obtain ⟨hw, h15⟩ := hw
 clear hi hi' hpos hl
 subst hlen
 have hcase : i' = 0 ∨ i' = 1 ∨ i' = 2 ∨ i' = 3 ∨ i' = 4 ∨ i' = 5 ∨ i' = 6 ∨ i' = 7 ∨ i' = 8 ∨ i' = 9 ∨ i' = 10 ∨ i' = 11 ∨ i' = 12 ∨ i' = 13 ∨ i' = 14 := by omega
 rcases hcase with rfl | rfl | rfl | rfl | rfl | rfl | rfl | rfl | rfl | rfl | rfl | rfl | rfl | rfl | rfl
 · exact plays_ans0 cb K sd x Z w wd ao cap ns h hx hz hs hW hk hcy hlv R hrf hn0 hw
 · exact plays_ans1 cb K sd x Z w wd ao cap ns h hx hz hs hW hk hcy hlv R hrf hn0 hw
 · exact plays_ans2 cb K sd x Z w wd ao cap ns h hx hz hs hW hk hcy hlv R hrf hn0 hw
 · exact plays_ans3 cb K sd x Z w wd ao cap ns h hx hz hs hW hk hcy hlv R hrf hn0 hw
 · exact plays_ans4 cb K sd x Z w wd ao cap ns h hx hz hs hW hk hcy hlv R hrf hn0 hw
 · exact plays_ans5 cb K sd x Z w wd ao cap ns h hx hz hs hW hk hcy hlv R hrf hn0 hw
 · exact plays_ans6 cb K sd x Z w wd ao cap ns h hx hz hs hW hk hcy hlv R hrf hn0 hw
 · exact plays_ans7 cb K sd x Z w wd ao cap ns h hx hz hs hW hk hcy hlv R hrf hn0 hw
 · exact plays_ans8 cb K sd x Z w wd ao cap ns h hx hz hs hW hk hcy hlv R hrf hn0 hw
 · exact plays_ans9 cb K sd x Z w wd ao cap ns h hx hz hs hW hk hcy hlv R hrf hn0 hw
 · exact plays_ans10 cb K sd x Z w wd ao cap ns h hx hz hs hW hk hcy hlv R hrf hn0 hw
 · exact plays_ans11 cb K sd x Z w wd ao cap ns h hx hz hs hW hk hcy hlv R hrf hn0 hw
 · exact plays_ans12 cb K sd x Z w wd ao cap ns h hx hz hs hW hk hcy hlv R hrf hn0 hw
 · exact plays_ans13 cb K sd x Z w wd ao cap ns h hx hz hs hW hk hcy hlv R hrf hn0 hw
 · exact plays_ans14 cb K sd x Z w wd ao cap ns h hx hz hs hW hk hcy hlv R hrf hn0 hw
structure SPl (W : World) (cb : Nat) (K : RChL) (sd : Nat) (x : CS) (Z : List (List Int)) (lv wv : Value) (LS AS : List ByteArray) (w : World) : Prop where
 cn : RCN W cb K sd x Z w
 pic : PicsOf x Z
 o1 : w.ownsRow W.heap.size 9 1 lv LS.length (LS.map Value.string)
 o2 : w.ownsRow W.heap.size 9 1 wv AS.length (AS.map Value.string)
 s1 : ∀ g, lv.ownBlock = some g → ¬ K.foot cb g
 s2 : ∀ g, wv.ownBlock = some g → ¬ K.foot cb g
 s12 : ∀ g, lv.ownBlock = some g → wv.ownBlock ≠ some g
section
variable {W w w' w1 : World} {cb sd g cp : Nat} {K K' : RChL} {x y : CS} {Z Y : List (List Int)} {lv wv : Value} {LS AS : List ByteArray} {s : ByteArray} {ob : Obj}
theorem SPl.next (h : SPl W cb K sd x Z lv wv LS AS w) (k : Below w.heap.size w w') : SPl W cb K sd x Z lv wv LS AS w' :=
 ⟨h.cn.next k, h.pic, ownsRow_other h.o1 (fun g hg => k.block g (h.o1.lt g hg).2), ownsRow_other h.o2 (fun g hg => k.block g (h.o2.lt g hg).2), h.s1, h.s2, h.s12⟩
theorem SPl.step (h : SPl W cb K sd x Z lv wv LS AS w) (k : RChGo w (K.foot cb) cb K' sd y Y w') (hp : PicsOf y Y) : SPl W cb K' sd y Y lv wv LS AS w' := by
 refine ⟨h.cn.of k, hp, ownsRow_other h.o1 (fun b hb => k.keep.block b (h.o1.lt b hb).2 (h.s1 b hb)), ownsRow_other h.o2 (fun b hb => k.keep.block b (h.o2.lt b hb).2 (h.s2 b hb)), fun b hb hf => ?_, fun b hb hf => ?_, h.s12⟩
 · rcases k.foot b hf with e | e
   · exact h.s1 b hb e
   · have := (h.o1.lt b hb).2; omega
 · rcases k.foot b hf with e | e
   · exact h.s2 b hb e
   · have := (h.o2.lt b hb).2; omega
theorem SPl.app1 (h : SPl W cb K sd x Z lv wv LS AS w) (hg : (w.alloc ob).grownBy w1 lv.ownBlock) (hor : lv.ownBlock = some g ∨ g = w.heap.size + 1)
   (ho : w1.ownsRow W.heap.size 9 1 (.slice (some ⟨g, 0, none⟩) (LS.length + 1) cp) (LS.length + 1) (LS.map Value.string ++ [.string s])) :
   SPl W cb K sd x Z (.slice (some ⟨g, 0, none⟩) (LS.length + 1) cp) wv (LS ++ [s]) AS w1 := by
 have K1 : Keep (fun b => lv.ownBlock = some b) w w1 := ((Keep.refl _ _).alloc ob).grown hg (fun k hk => .inl hk)
 refine ⟨h.cn.other K1 (fun b hb => (h.o1.lt b hb).1) (fun b hb e => h.s1 b e hb), h.pic, ?_, ownsRow_other h.o2 (fun b hb => K1.block b (h.o2.lt b hb).2 (fun e => h.s12 b e hb)), fun g' hg' => ?_, h.s2, fun g' hg' hw => ?_⟩
 · rw [List.length_append, List.map_append]; exact ho
 · have : g' = g := by simpa [Value.ownBlock] using hg'.symm
   subst this
   rcases hor with e | e
   · exact h.s1 g' e
   · exact fun hf => by have := h.cn.ch.footlt g' hf; omega
 · have : g' = g := by simpa [Value.ownBlock] using hg'.symm
   subst this
   rcases hor with e | e
   · exact h.s12 g' e hw
   · have := (h.o2.lt g' hw).2; omega
theorem SPl.app2 (h : SPl W cb K sd x Z lv wv LS AS w) (hg : (w.alloc ob).grownBy w1 wv.ownBlock) (hor : wv.ownBlock = some g ∨ g = w.heap.size + 1)
   (ho : w1.ownsRow W.heap.size 9 1 (.slice (some ⟨g, 0, none⟩) (AS.length + 1) cp) (AS.length + 1) (AS.map Value.string ++ [.string s])) :
   SPl W cb K sd x Z lv (.slice (some ⟨g, 0, none⟩) (AS.length + 1) cp) LS (AS ++ [s]) w1 := by
 have K1 : Keep (fun b => wv.ownBlock = some b) w w1 := ((Keep.refl _ _).alloc ob).grown hg (fun k hk => .inl hk)
 refine ⟨h.cn.other K1 (fun b hb => (h.o2.lt b hb).1) (fun b hb e => h.s2 b e hb), h.pic, ownsRow_other h.o1 (fun b hb => K1.block b (h.o1.lt b hb).2 (fun e => h.s12 b hb e)), ?_, h.s1, fun g' hg' => ?_, fun g' hg' hw => ?_⟩
 · rw [List.length_append, List.map_append]; exact ho
 · have : g' = g := by simpa [Value.ownBlock] using hg'.symm
   subst this
   rcases hor with e | e
   · exact h.s2 g' e
   · exact fun hf => by have := h.cn.ch.footlt g' hf; omega
 · have : g = g' := by simpa [Value.ownBlock] using hw
   subst this
   rcases hor with e | e
   · exact h.s12 g hg' e
   · have := (h.o1.lt g hg').2; omega
end
end Go.Proofs.YtajnfkmkombajaaGreatDoor
