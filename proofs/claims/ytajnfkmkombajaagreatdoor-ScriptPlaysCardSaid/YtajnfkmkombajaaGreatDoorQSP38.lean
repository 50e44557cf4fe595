/-
  ScriptPlays: the document's answer to a command.
-/
import Derived.Test.YtajnfkmkombajaaGreatDoorQSP33
import Derived.Test.YtajnfkmkombajaaGreatDoorQSP36
import Derived.Test.YtajnfkmkombajaaGreatDoorQSP34
import Derived.Test.YtajnfkmkombajaaGreatDoorQSP32
import Derived.Test.YtajnfkmkombajaaGreatDoorQSP37
import Derived.Test.YtajnfkmkombajaaGreatDoorQSP28
import Derived.Test.YtajnfkmkombajaaGreatDoorQSP21
import Derived.Deep.RegionWith
import Derived.Deep.RegionHeld3
import Derived.Deep.QuietTactic
import Derived.BigQuiet
import Derived.Laws.Concat
set_option linter.unusedVariables false
set_option linter.unusedSimpArgs false
set_option linter.unusedVariables false
namespace Go.Proofs.YtajnfkmkombajaaGreatDoor
open Go Go.RowKit Go.Maps
def Left2 (w : World) (F : Nat → Prop) (cb sd : Nat) (y : CS) (w' : World) : Prop := ∃ K' Z', RChGo w F cb K' sd y Z' w' ∧ PicsOf y Z'
def PlayPost (w : World) (F : Nat → Prop) (cb sd : Nat) (r : ByteArray × Nat × CS) (e : Ending) (w' : World) : Prop := e = .returned (.string (tellB r.2.1 r.1)) ∧ Left2 w F cb sd r.2.2 w'
structure PBx (W : World) (F : Nat → Prop) (g : Nat) (wd : ByteArray) (ao : Option Addr) (len cap : Nat) (ns : List Int) : Prop where
 glt : g < W.heap.size
 gf : ¬ F g
 c0 : W.cell? ⟨g, 0, none⟩ = some (.string wd)
 c1 : W.cell? ⟨g, 1, none⟩ = some (.slice ao len cap)
 row : RdI .i64 W ao len cap ns
 rf : ∀ b off, ao = some ⟨b, off, none⟩ → 0 < len → ¬ F b
section
variable {W w : World} {F : Nat → Prop} {g : Nat} {wd : ByteArray} {b off : Nat} {len cap : Nat} {ns : List Int}
theorem PBx.b1 (h : PBx W F g wd (some ⟨b, off, none⟩) len cap ns) (k : Keep F W w) : w.cell? ⟨g, 1, none⟩ = some (.slice (some ⟨b, off, none⟩) len cap) := by rw [k.cell (p := ⟨g, 1, none⟩) h.glt h.gf]; exact h.c1
theorem PBx.n (h : PBx W F g wd (some ⟨b, off, none⟩) len cap ns) (k : Keep F W w) (i : Nat) (hi : i < len) : w.cell? ⟨b, off + i, none⟩ = some (.int .i64 (ns.getD i 0)) := by
 obtain ⟨b', off', e, c⟩ := h.row.cells i hi
 cases e
 rw [k.cell (p := ⟨b, off + i, none⟩) (World.block_lt_of_cell? W _ c) (h.rf b off rfl (by omega))]
 exact c
end
section
variable (W : World) (F : Nat → Prop) (cb : Nat) (K : RChL) (sd : Nat) (x : CS) (Z : List (List Int)) (g : Nat) (wd : ByteArray) (ao : Option Addr) (len cap : Nat) (ns : List Int)
theorem pbx_new (w wb : World) (T : TypeId) (hwb : w.alloc (.cells #[.string wd, .slice ao len cap] T) = wb) (h : RChGo w (K.foot cb) cb K sd x Z w) (R : RdI .i64 w ao len cap ns) (hrf : ∀ b off, ao = some ⟨b, off, none⟩ → 0 < len → ¬ K.foot cb b) :
   PBx wb (K.foot cb) w.heap.size wd ao len cap ns ∧ RChGo wb (K.foot cb) cb K sd x Z wb ∧ Below w.heap.size w wb := by
 have b0 : Below w.heap.size w wb := by rw [← hwb]; exact (Below.refl _ _).alloc (Nat.le_refl _) _
 have hlt : w.heap.size < wb.heap.size := by rw [← hwb]; simp
 have hc := h.ch.below b0
 refine ⟨⟨hlt, fun hf => absurd (h.ch.footlt _ hf) (Nat.lt_irrefl _), ?_, ?_, R.below b0, hrf⟩, RChGo.start hc (fun _ q => q) (fun b q => hc.footlt b q), b0⟩
 all_goals (rw [← hwb]; unfold World.cell?; rw [heap_alloc_new]; simp)
end
section
variable (cb : Nat) (K : RChL) (sd : Nat) (x : CS) (Z : List (List Int)) (w : World) (wd : ByteArray) (ao : Option Addr) (cap : Nat) (ns : List Int)
set_option maxRecDepth 8000 in
set_option maxHeartbeats 4000000 in
theorem plays_ans0 (h : RChGo w (K.foot cb) cb K sd x Z w) (hx : x.Inv) (hz : PicsOf x Z) (hs : sd < 18446744073709551616) (hW : x.s.W.length ≤ 8000) (hk : x.k.L.length ≤ 1000000) (hcy : x.cycle ≤ 1000000) (hlv : Lv x) (R : RdI .i64 w ao 3 cap ns) (hrf : ∀ b off, ao = some ⟨b, off, none⟩ → 0 < 3 → ¬ K.foot cb b) (hn0 : 0 ≤ ns.getD 0 0) (hw : wd.toList = [112, 97, 121]) :
   Calls Tryz.prog 7 #[.pointer (some ⟨cb, 0, none⟩), .agg #[.string wd, .slice ao 3 cap]] w (PlayPost w (K.foot cb) cb sd (x.cmdOp sd 0 ns)) := by
 obtain ⟨wb, hwb⟩ : ∃ wb, w.alloc (.cells #[.string wd, .slice ao 3 cap] 30) = wb := ⟨_, rfl⟩
 obtain ⟨hp, hg, hb⟩ := pbx_new cb K sd x Z wd ao 3 cap ns w wb _ hwb h R hrf
 have hle := CS.cmd_le x sd 0 ns
 obtain ⟨b, off, rfl, -⟩ := R.cells 0 (by decide)
 have HP := Lib.hid hp; have HG := Lib.hid hg; have HB := Lib.hid hb; have HZ := Lib.hid hz; have HX := Lib.hid hx; have HLE := Lib.hid hle
 have HG1 := Lib.hid (hg.drewN 1)
 have HFL := Lib.hid (fun i (q : K.foot cb i) => h.ch.footlt i q)
 have c0 : wb.cell? ⟨w.heap.size, 0, none⟩ = some (.string wd) := hp.c0
 have HC := Lib.hid (fun (wx : World) (K' : RChL) (y : CS) (Z' : List (List Int)) (q : RChGo wb (K.foot cb) cb K' sd y Z' wx) (e0 : K'.pb = K.pb) => show wx.cell? ⟨w.heap.size, 1, none⟩ = some (.slice (some ⟨b, off, none⟩) 3 cap) ∧ wx.cell? ⟨b, off, none⟩ = some (.int .i64 (ns.getD 0 0)) ∧ wx.cell? ⟨b, off + 1, none⟩ = some (.int .i64 (ns.getD 1 0)) ∧ wx.cell? ⟨b, off + 2, none⟩ = some (.int .i64 (ns.getD 2 0)) ∧ wx.cell? ⟨cb, 0, none⟩ = some (.pointer (some ⟨K.pb, 0, none⟩)) from by
   exact ⟨HP.out.b1 q.keep, by simpa using HP.out.n q.keep 0 (by decide), by simpa using HP.out.n q.keep 1 (by decide), by simpa using HP.out.n q.keep 2 (by decide), by rw [← e0]; exact q.c0⟩)
 clear h hx hz hp hg hb R hrf hle
 go_enter Tryz.func7, Tryz.ntmps7
 go_wp2_with fail
 go_region_held3 (fun w' => w'.cell? ⟨w.heap.size, 1, none⟩ = some (.slice (some ⟨b, off, none⟩) 3 cap) ∧ w'.cell? ⟨b, off, none⟩ = some (.int .i64 (ns.getD 0 0)) ∧ w'.cell? ⟨b, off + 1, none⟩ = some (.int .i64 (ns.getD 1 0)) ∧ w'.cell? ⟨b, off + 2, none⟩ = some (.int .i64 (ns.getD 2 0)) ∧ w'.cell? ⟨cb, 0, none⟩ = some (.pointer (some ⟨K.pb, 0, none⟩))) (first | exact HC.out _ _ _ _ H2.out rfl | exact HC.out _ _ _ _ H1.out rfl | exact HC.out _ _ _ _ HG.out rfl | exact HC.out _ _ _ _ (HG.out.drewN _) rfl)
   (first
     | (go_at_call 20; refine (refp_Move K.pb K.hb x.p (ns.getD 0 0) (ns.getD 1 0) (ns.getD 2 0) _ HG1.out.ch.purse).mono ?_; rintro y wa ⟨rfl, ka⟩; have H1 := Lib.hid (HG1.out.purse ka))
     | (go_at_call 19; refine (law3_orElse _ HLE.out ⟨#[111, 107]⟩ _).mono ?_; rintro y wc ⟨rfl, kb⟩; have H2 := Lib.hid (H1.out.below kb)))
 all_goals
   go_wp2_with fail
   go_ret
   exact ⟨rfl, _, _, H2.out.since HB.out HFL.out, HZ.out.same rfl rfl⟩
set_option maxRecDepth 8000 in
set_option maxHeartbeats 4000000 in
theorem plays_ans1 (h : RChGo w (K.foot cb) cb K sd x Z w) (hx : x.Inv) (hz : PicsOf x Z) (hs : sd < 18446744073709551616) (hW : x.s.W.length ≤ 8000) (hk : x.k.L.length ≤ 1000000) (hcy : x.cycle ≤ 1000000) (hlv : Lv x) (R : RdI .i64 w ao 3 cap ns) (hrf : ∀ b off, ao = some ⟨b, off, none⟩ → 0 < 3 → ¬ K.foot cb b) (hn0 : 0 ≤ ns.getD 0 0) (hw : wd.toList = [115, 116, 97, 107, 101]) :
   Calls Tryz.prog 7 #[.pointer (some ⟨cb, 0, none⟩), .agg #[.string wd, .slice ao 3 cap]] w (PlayPost w (K.foot cb) cb sd (x.cmdOp sd 1 ns)) := by
 obtain ⟨wb, hwb⟩ : ∃ wb, w.alloc (.cells #[.string wd, .slice ao 3 cap] 30) = wb := ⟨_, rfl⟩
 obtain ⟨hp, hg, hb⟩ := pbx_new cb K sd x Z wd ao 3 cap ns w wb _ hwb h R hrf
 have hle := CS.cmd_le x sd 1 ns
 obtain ⟨b, off, rfl, -⟩ := R.cells 0 (by decide)
 have HP := Lib.hid hp; have HG := Lib.hid hg; have HB := Lib.hid hb; have HZ := Lib.hid hz; have HX := Lib.hid hx; have HLE := Lib.hid hle
 have HG1 := Lib.hid (hg.drewN 1)
 have HFL := Lib.hid (fun i (q : K.foot cb i) => h.ch.footlt i q)
 have c0 : wb.cell? ⟨w.heap.size, 0, none⟩ = some (.string wd) := hp.c0
 have HC := Lib.hid (fun (wx : World) (K' : RChL) (y : CS) (Z' : List (List Int)) (q : RChGo wb (K.foot cb) cb K' sd y Z' wx) => show wx.cell? ⟨w.heap.size, 1, none⟩ = some (.slice (some ⟨b, off, none⟩) 3 cap) ∧ wx.cell? ⟨b, off, none⟩ = some (.int .i64 (ns.getD 0 0)) ∧ wx.cell? ⟨b, off + 1, none⟩ = some (.int .i64 (ns.getD 1 0)) ∧ wx.cell? ⟨b, off + 2, none⟩ = some (.int .i64 (ns.getD 2 0)) from by
   exact ⟨HP.out.b1 q.keep, by simpa using HP.out.n q.keep 0 (by decide), by simpa using HP.out.n q.keep 1 (by decide), by simpa using HP.out.n q.keep 2 (by decide)⟩)
 clear h hx hz hp hg hb R hrf hle
 go_enter Tryz.func7, Tryz.ntmps7
 go_wp2_with fail
 go_region_held3 (fun w' => w'.cell? ⟨w.heap.size, 1, none⟩ = some (.slice (some ⟨b, off, none⟩) 3 cap) ∧ w'.cell? ⟨b, off, none⟩ = some (.int .i64 (ns.getD 0 0)) ∧ w'.cell? ⟨b, off + 1, none⟩ = some (.int .i64 (ns.getD 1 0)) ∧ w'.cell? ⟨b, off + 2, none⟩ = some (.int .i64 (ns.getD 2 0))) (first | exact HC.out _ _ _ _ H2.out  | exact HC.out _ _ _ _ H1.out  | exact HC.out _ _ _ _ HG.out  | exact HC.out _ _ _ _ (HG.out.drewN _) )
   (first
     | (go_at_call 21; refine (refc_Stake wb (K.foot cb) cb K sd x Z _ (ns.getD 0 0) (ns.getD 1 0) (ns.getD 2 0) HG1.out).mono ?_; rintro y wa ⟨rfl, K2, ka⟩; have H1 := Lib.hid (ka))
     | (go_at_call 19; refine (law3_orElse _ HLE.out ⟨#[111, 107]⟩ _).mono ?_; rintro y wc ⟨rfl, kb⟩; have H2 := Lib.hid (H1.out.below kb)))
 all_goals
   go_wp2_with fail
   go_ret
   exact ⟨rfl, _, _, H2.out.since HB.out HFL.out, HZ.out.same (CS.stake_pics x _ _ _).1 (CS.stake_pics x _ _ _).2⟩
set_option maxRecDepth 8000 in
set_option maxHeartbeats 4000000 in
theorem plays_ans2 (h : RChGo w (K.foot cb) cb K sd x Z w) (hx : x.Inv) (hz : PicsOf x Z) (hs : sd < 18446744073709551616) (hW : x.s.W.length ≤ 8000) (hk : x.k.L.length ≤ 1000000) (hcy : x.cycle ≤ 1000000) (hlv : Lv x) (R : RdI .i64 w ao 3 cap ns) (hrf : ∀ b off, ao = some ⟨b, off, none⟩ → 0 < 3 → ¬ K.foot cb b) (hn0 : 0 ≤ ns.getD 0 0) (hw : wd.toList = [117, 110, 115, 116, 97, 107, 101]) :
   Calls Tryz.prog 7 #[.pointer (some ⟨cb, 0, none⟩), .agg #[.string wd, .slice ao 3 cap]] w (PlayPost w (K.foot cb) cb sd (x.cmdOp sd 2 ns)) := by
 obtain ⟨wb, hwb⟩ : ∃ wb, w.alloc (.cells #[.string wd, .slice ao 3 cap] 30) = wb := ⟨_, rfl⟩
 obtain ⟨hp, hg, hb⟩ := pbx_new cb K sd x Z wd ao 3 cap ns w wb _ hwb h R hrf
 have hle := CS.cmd_le x sd 2 ns
 obtain ⟨b, off, rfl, -⟩ := R.cells 0 (by decide)
 have HP := Lib.hid hp; have HG := Lib.hid hg; have HB := Lib.hid hb; have HZ := Lib.hid hz; have HX := Lib.hid hx; have HLE := Lib.hid hle
 have HG1 := Lib.hid (hg.drewN 1)
 have HFL := Lib.hid (fun i (q : K.foot cb i) => h.ch.footlt i q)
 have c0 : wb.cell? ⟨w.heap.size, 0, none⟩ = some (.string wd) := hp.c0
 have HC := Lib.hid (fun (wx : World) (K' : RChL) (y : CS) (Z' : List (List Int)) (q : RChGo wb (K.foot cb) cb K' sd y Z' wx) (e1 : K'.sb = K.sb) (e4 : y.cycle = x.cycle) => show wx.cell? ⟨w.heap.size, 1, none⟩ = some (.slice (some ⟨b, off, none⟩) 3 cap) ∧ wx.cell? ⟨b, off, none⟩ = some (.int .i64 (ns.getD 0 0)) ∧ wx.cell? ⟨b, off + 1, none⟩ = some (.int .i64 (ns.getD 1 0)) ∧ wx.cell? ⟨b, off + 2, none⟩ = some (.int .i64 (ns.getD 2 0)) ∧ wx.cell? ⟨cb, 1, none⟩ = some (.pointer (some ⟨K.sb, 0, none⟩)) ∧ wx.cell? ⟨cb, 4, none⟩ = some (.int .i64 x.cycle) from by
   exact ⟨HP.out.b1 q.keep, by simpa using HP.out.n q.keep 0 (by decide), by simpa using HP.out.n q.keep 1 (by decide), by simpa using HP.out.n q.keep 2 (by decide), by rw [← e1]; exact q.c1, by rw [← e4]; exact q.c4⟩)
 clear h hx hz hp hg hb R hrf hle
 go_enter Tryz.func7, Tryz.ntmps7
 go_wp2_with fail
 go_region_held3 (fun w' => w'.cell? ⟨w.heap.size, 1, none⟩ = some (.slice (some ⟨b, off, none⟩) 3 cap) ∧ w'.cell? ⟨b, off, none⟩ = some (.int .i64 (ns.getD 0 0)) ∧ w'.cell? ⟨b, off + 1, none⟩ = some (.int .i64 (ns.getD 1 0)) ∧ w'.cell? ⟨b, off + 2, none⟩ = some (.int .i64 (ns.getD 2 0)) ∧ w'.cell? ⟨cb, 1, none⟩ = some (.pointer (some ⟨K.sb, 0, none⟩)) ∧ w'.cell? ⟨cb, 4, none⟩ = some (.int .i64 x.cycle)) (first | exact HC.out _ _ _ _ H2.out rfl rfl | exact HC.out _ _ _ _ H1.out rfl rfl | exact HC.out _ _ _ _ HG.out rfl rfl | exact HC.out _ _ _ _ (HG.out.drewN _) rfl rfl)
   (first
     | (go_at_call 22; refine (refs_Leave K.sb K.Fs x.s _ (ns.getD 0 0) (ns.getD 1 0) (ns.getD 2 0) x.cycle HG1.out.ch.st hW).mono ?_; rintro y wa ⟨rfl, ka⟩; have H1 := Lib.hid (HG1.out.stakes ka))
     | (go_at_call 19; refine (law3_orElse _ HLE.out ⟨#[111, 107]⟩ _).mono ?_; rintro y wc ⟨rfl, kb⟩; have H2 := Lib.hid (H1.out.below kb)))
 all_goals
   go_wp2_with fail
   go_ret
   exact ⟨rfl, _, _, H2.out.since HB.out HFL.out, HZ.out.same rfl rfl⟩
set_option maxRecDepth 8000 in
set_option maxHeartbeats 4000000 in
theorem plays_ans3 (h : RChGo w (K.foot cb) cb K sd x Z w) (hx : x.Inv) (hz : PicsOf x Z) (hs : sd < 18446744073709551616) (hW : x.s.W.length ≤ 8000) (hk : x.k.L.length ≤ 1000000) (hcy : x.cycle ≤ 1000000) (hlv : Lv x) (R : RdI .i64 w ao 4 cap ns) (hrf : ∀ b off, ao = some ⟨b, off, none⟩ → 0 < 4 → ¬ K.foot cb b) (hn0 : 0 ≤ ns.getD 0 0) (hw : wd.toList = [97, 99, 99, 117, 115, 101]) :
   Calls Tryz.prog 7 #[.pointer (some ⟨cb, 0, none⟩), .agg #[.string wd, .slice ao 4 cap]] w (PlayPost w (K.foot cb) cb sd (x.cmdOp sd 3 ns)) := by
 obtain ⟨wb, hwb⟩ : ∃ wb, w.alloc (.cells #[.string wd, .slice ao 4 cap] 30) = wb := ⟨_, rfl⟩
 obtain ⟨hp, hg, hb⟩ := pbx_new cb K sd x Z wd ao 4 cap ns w wb _ hwb h R hrf
 have hle := CS.cmd_le x sd 3 ns
 obtain ⟨b, off, rfl, -⟩ := R.cells 0 (by decide)
 have HP := Lib.hid hp; have HG := Lib.hid hg; have HB := Lib.hid hb; have HZ := Lib.hid hz; have HX := Lib.hid hx; have HLE := Lib.hid hle
 have HG1 := Lib.hid (hg.drewN 1)
 have HFL := Lib.hid (fun i (q : K.foot cb i) => h.ch.footlt i q)
 have c0 : wb.cell? ⟨w.heap.size, 0, none⟩ = some (.string wd) := hp.c0
 have HC := Lib.hid (fun (wx : World) (K' : RChL) (y : CS) (Z' : List (List Int)) (q : RChGo wb (K.foot cb) cb K' sd y Z' wx) (e2 : K'.kb = K.kb) (e4 : y.cycle = x.cycle) => show wx.cell? ⟨w.heap.size, 1, none⟩ = some (.slice (some ⟨b, off, none⟩) 4 cap) ∧ wx.cell? ⟨b, off, none⟩ = some (.int .i64 (ns.getD 0 0)) ∧ wx.cell? ⟨b, off + 1, none⟩ = some (.int .i64 (ns.getD 1 0)) ∧ wx.cell? ⟨b, off + 2, none⟩ = some (.int .i64 (ns.getD 2 0)) ∧ wx.cell? ⟨b, off + 3, none⟩ = some (.int .i64 (ns.getD 3 0)) ∧ wx.cell? ⟨cb, 2, none⟩ = some (.pointer (some ⟨K.kb, 0, none⟩)) ∧ wx.cell? ⟨cb, 4, none⟩ = some (.int .i64 x.cycle) from by
   exact ⟨HP.out.b1 q.keep, by simpa using HP.out.n q.keep 0 (by decide), by simpa using HP.out.n q.keep 1 (by decide), by simpa using HP.out.n q.keep 2 (by decide), by simpa using HP.out.n q.keep 3 (by decide), by rw [← e2]; exact q.c2, by rw [← e4]; exact q.c4⟩)
 clear h hx hz hp hg hb R hrf hle
 go_enter Tryz.func7, Tryz.ntmps7
 go_wp2_with fail
 go_region_held3 (fun w' => w'.cell? ⟨w.heap.size, 1, none⟩ = some (.slice (some ⟨b, off, none⟩) 4 cap) ∧ w'.cell? ⟨b, off, none⟩ = some (.int .i64 (ns.getD 0 0)) ∧ w'.cell? ⟨b, off + 1, none⟩ = some (.int .i64 (ns.getD 1 0)) ∧ w'.cell? ⟨b, off + 2, none⟩ = some (.int .i64 (ns.getD 2 0)) ∧ w'.cell? ⟨b, off + 3, none⟩ = some (.int .i64 (ns.getD 3 0)) ∧ w'.cell? ⟨cb, 2, none⟩ = some (.pointer (some ⟨K.kb, 0, none⟩)) ∧ w'.cell? ⟨cb, 4, none⟩ = some (.int .i64 x.cycle)) (first | exact HC.out _ _ _ _ H2.out rfl rfl | exact HC.out _ _ _ _ H1.out rfl rfl | exact HC.out _ _ _ _ HG.out rfl rfl | exact HC.out _ _ _ _ (HG.out.drewN _) rfl rfl)
   (first
     | (go_at_call 23; refine (ref_CourtAccuse K.kb K.Fk x.k (ns.getD 0 0) ⟨(ns.getD 1 0), (ns.getD 2 0), (ns.getD 3 0)⟩ x.cycle _ HG1.out.ch.ct hk).mono ?_; rintro y wa ⟨rfl, ka⟩; have H1 := Lib.hid (HG1.out.court ka))
     | (go_at_call 19; refine (law3_orElse _ HLE.out ⟨#[111, 107]⟩ _).mono ?_; rintro y wc ⟨rfl, kb⟩; have H2 := Lib.hid (H1.out.below kb)))
 all_goals
   go_wp2_with fail
   go_ret
   exact ⟨rfl, _, _, H2.out.since HB.out HFL.out, HZ.out.same rfl rfl⟩
set_option maxRecDepth 8000 in
set_option maxHeartbeats 4000000 in
theorem plays_ans4 (h : RChGo w (K.foot cb) cb K sd x Z w) (hx : x.Inv) (hz : PicsOf x Z) (hs : sd < 18446744073709551616) (hW : x.s.W.length ≤ 8000) (hk : x.k.L.length ≤ 1000000) (hcy : x.cycle ≤ 1000000) (hlv : Lv x) (R : RdI .i64 w ao 0 cap ns) (hrf : ∀ b off, ao = some ⟨b, off, none⟩ → 0 < 0 → ¬ K.foot cb b) (hn0 : 0 ≤ ns.getD 0 0) (hw : wd.toList = [99, 121, 99, 108, 101]) :
   Calls Tryz.prog 7 #[.pointer (some ⟨cb, 0, none⟩), .agg #[.string wd, .slice ao 0 cap]] w (PlayPost w (K.foot cb) cb sd (x.cmdOp sd 4 ns)) := by
 obtain ⟨wb, hwb⟩ : ∃ wb, w.alloc (.cells #[.string wd, .slice ao 0 cap] 30) = wb := ⟨_, rfl⟩
 obtain ⟨hp, hg, hb⟩ := pbx_new cb K sd x Z wd ao 0 cap ns w wb _ hwb h R hrf
 have hle := CS.cmd_le x sd 4 ns
 have HP := Lib.hid hp; have HG := Lib.hid hg; have HB := Lib.hid hb; have HZ := Lib.hid hz; have HX := Lib.hid hx; have HLE := Lib.hid hle
 have HG1 := Lib.hid (hg.drewN 1)
 have HFL := Lib.hid (fun i (q : K.foot cb i) => h.ch.footlt i q)
 have c0 : wb.cell? ⟨w.heap.size, 0, none⟩ = some (.string wd) := hp.c0
 clear h hx hz hp hg hb R hrf hle
 go_enter Tryz.func7, Tryz.ntmps7
 go_wp2_with fail
 refine (refc_cycle wb (K.foot cb) cb K sd x Z _ HG.out HX.out HZ.out hs hW hk).mono ?_
 rintro y wa ⟨rfl, K2, Z2, g2, p2⟩
 go_wp2_with fail
 go_ret
 exact ⟨rfl, K2, Z2, g2.since HB.out HFL.out, p2⟩
set_option maxRecDepth 8000 in
set_option maxHeartbeats 4000000 in
theorem plays_ans5 (h : RChGo w (K.foot cb) cb K sd x Z w) (hx : x.Inv) (hz : PicsOf x Z) (hs : sd < 18446744073709551616) (hW : x.s.W.length ≤ 8000) (hk : x.k.L.length ≤ 1000000) (hcy : x.cycle ≤ 1000000) (hlv : Lv x) (R : RdI .i64 w ao 1 cap ns) (hrf : ∀ b off, ao = some ⟨b, off, none⟩ → 0 < 1 → ¬ K.foot cb b) (hn0 : 0 ≤ ns.getD 0 0) (hw : wd.toList = [102, 114, 101, 101]) :
   Calls Tryz.prog 7 #[.pointer (some ⟨cb, 0, none⟩), .agg #[.string wd, .slice ao 1 cap]] w (PlayPost w (K.foot cb) cb sd (x.cmdOp sd 5 ns)) := by
 obtain ⟨wb, hwb⟩ : ∃ wb, w.alloc (.cells #[.string wd, .slice ao 1 cap] 30) = wb := ⟨_, rfl⟩
 obtain ⟨hp, hg, hb⟩ := pbx_new cb K sd x Z wd ao 1 cap ns w wb _ hwb h R hrf
 have ham := CS.free_amt hx (ns.getD 0 0)
 have hle := CS.cmd_le x sd 5 ns
 obtain ⟨b, off, rfl, -⟩ := R.cells 0 (by decide)
 have HP := Lib.hid hp; have HG := Lib.hid hg; have HB := Lib.hid hb; have HZ := Lib.hid hz; have HX := Lib.hid hx; have HLE := Lib.hid hle
 have HG1 := Lib.hid (hg.drewN 1)
 have HFL := Lib.hid (fun i (q : K.foot cb i) => h.ch.footlt i q)
 have c0 : wb.cell? ⟨w.heap.size, 0, none⟩ = some (.string wd) := hp.c0
 have HC := Lib.hid (fun (wx : World) (K' : RChL) (y : CS) (Z' : List (List Int)) (q : RChGo wb (K.foot cb) cb K' sd y Z' wx) => show wx.cell? ⟨w.heap.size, 1, none⟩ = some (.slice (some ⟨b, off, none⟩) 1 cap) ∧ wx.cell? ⟨b, off, none⟩ = some (.int .i64 (ns.getD 0 0)) from by
   exact ⟨HP.out.b1 q.keep, by simpa using HP.out.n q.keep 0 (by decide)⟩)
 clear h hx hz hp hg hb R hrf hle
 have HAM := Lib.hid ham; clear ham
 obtain ⟨e1, e2⟩ := HC.out _ _ _ _ HG.out
 go_enter Tryz.func7, Tryz.ntmps7
 go_wp2_with fail
 refine (refc_Free wb (K.foot cb) cb K sd x Z _ (ns.getD 0 0) HG.out hW).mono ?_
 rintro y wa ⟨rfl, K2, g2⟩
 have H1 := Lib.hid g2; clear g2
 go_wp2_with fail
 refine (ref_Decimal _ HAM.out.1 (Int.le_trans HAM.out.2 (by decide)) _).mono ?_
 rintro y wc ⟨rfl, k2⟩
 have H2 := Lib.hid (H1.out.below k2); clear k2
 go_wp2_with fail
 refine (law3_orElse _ HLE.out _ _).mono ?_
 rintro y wd ⟨rfl, k3⟩
 have H3 := Lib.hid (H2.out.below k3); clear k3
 go_wp2_with fail
 go_ret
 exact ⟨rfl, _, _, H3.out.since HB.out HFL.out, HZ.out.same (CS.free_pics x _).1 (CS.free_pics x _).2⟩
set_option maxRecDepth 8000 in
set_option maxHeartbeats 4000000 in
theorem plays_ans6 (h : RChGo w (K.foot cb) cb K sd x Z w) (hx : x.Inv) (hz : PicsOf x Z) (hs : sd < 18446744073709551616) (hW : x.s.W.length ≤ 8000) (hk : x.k.L.length ≤ 1000000) (hcy : x.cycle ≤ 1000000) (hlv : Lv x) (R : RdI .i64 w ao 1 cap ns) (hrf : ∀ b off, ao = some ⟨b, off, none⟩ → 0 < 1 → ¬ K.foot cb b) (hn0 : 0 ≤ ns.getD 0 0) (hw : wd.toList = [116, 117, 114, 110]) :
   Calls Tryz.prog 7 #[.pointer (some ⟨cb, 0, none⟩), .agg #[.string wd, .slice ao 1 cap]] w (PlayPost w (K.foot cb) cb sd (x.cmdOp sd 6 ns)) := by
 obtain ⟨wb, hwb⟩ : ∃ wb, w.alloc (.cells #[.string wd, .slice ao 1 cap] 30) = wb := ⟨_, rfl⟩
 obtain ⟨hp, hg, hb⟩ := pbx_new cb K sd x Z wd ao 1 cap ns w wb _ hwb h R hrf
 have hle := CS.cmd_le x sd 6 ns
 obtain ⟨b, off, rfl, -⟩ := R.cells 0 (by decide)
 have HP := Lib.hid hp; have HG := Lib.hid hg; have HB := Lib.hid hb; have HZ := Lib.hid hz; have HX := Lib.hid hx; have HLE := Lib.hid hle
 have HG1 := Lib.hid (hg.drewN 1)
 have HFL := Lib.hid (fun i (q : K.foot cb i) => h.ch.footlt i q)
 have c0 : wb.cell? ⟨w.heap.size, 0, none⟩ = some (.string wd) := hp.c0
 have HC := Lib.hid (fun (wx : World) (K' : RChL) (y : CS) (Z' : List (List Int)) (q : RChGo wb (K.foot cb) cb K' sd y Z' wx) => show wx.cell? ⟨w.heap.size, 1, none⟩ = some (.slice (some ⟨b, off, none⟩) 1 cap) ∧ wx.cell? ⟨b, off, none⟩ = some (.int .i64 (ns.getD 0 0)) from by
   exact ⟨HP.out.b1 q.keep, by simpa using HP.out.n q.keep 0 (by decide)⟩)
 clear h hx hz hp hg hb R hrf hle
 have HV := Lib.hid (turnV_bd HX.out sd (ns.getD 0 0))
 obtain ⟨e1, e2⟩ := HC.out _ _ _ _ HG.out
 have HT := Lib.hid (refc_Turn wb (K.foot cb) cb K sd x Z _ (ns.getD 0 0) HG.out HX.out HZ.out hs)
 have HEQ := Lib.hid (show x.cmdOp sd 6 ns = (itoaB (x.turnV sd (ns.getD 0 0)), x.turnC (ns.getD 0 0), x) from rfl)
 rw [HEQ.out]
 rw [HEQ.out] at HLE
 simp only at HLE
 generalize x.turnV sd (ns.getD 0 0) = tv at *
 generalize x.turnC (ns.getD 0 0) = tc at *
 go_enter Tryz.func7, Tryz.ntmps7
 go_wp2_with fail
 refine HT.out.mono ?_
 rintro y w2 ⟨rfl, k2⟩
 have H1 := Lib.hid (HG.out.below k2); clear k2
 obtain ⟨wa, hwa⟩ : ∃ wa, w2.alloc (.cells #[.int .i64 tc, .int .i64 (-1)] 65) = wa := ⟨_, rfl⟩
 have RA : RowAt w2.heap.size 65 [.int .i64 tc, .int .i64 (-1)] wa := by rw [← hwa]; exact RowAt.new _ _ _
 have BA : Below w2.heap.size w2 wa := by rw [← hwa]; exact (Below.refl _ _).alloc (Nat.le_refl _) _
 have H2 := Lib.hid (H1.out.below BA)
 have HQ := Lib.hid (fun (wx : World) (k : Below wa.heap.size wa wx) => show wx.cell? ⟨w2.heap.size, 0, none⟩ = some (.int .i64 tc) from by rw [k.cell (p := ⟨w2.heap.size, 0, none⟩) RA.lt, RA.cell 0]; rfl)
 have q0 := RA.cell 0; have q1 := RA.cell 1
 simp only [List.getElem?_cons_zero, List.getElem?_cons_succ] at q0 q1
 clear RA BA e1 e2
 go_wp2_with fail
 go_region_held3 (fun w' => w'.cell? ⟨w2.heap.size, 0, none⟩ = some (.int .i64 tc)) (first | exact HQ.out _ HD2.out | exact HQ.out _ HD1.out | exact HQ.out _ (Below.refl _ _) | exact HQ.out _ ((Below.refl _ _).drewN _))
   (first
     | (go_at_call 18; refine (ref_Decimal _ HV.out.1 (by have := HV.out.2; omega) _).mono ?_; rintro y wc ⟨rfl, k3⟩; have HD1 := Lib.hid (btrans ((Below.refl wa.heap.size wa).drewN 1) k3))
     | (go_at_call 19; refine (law3_orElse _ HLE.out _ _).mono ?_; rintro y wd ⟨rfl, k4⟩; have HD2 := Lib.hid (btrans HD1.out k4)))
 all_goals
   go_wp2_with fail
   go_ret
   exact ⟨rfl, _, _, (H2.out.below HD2.out).since HB.out HFL.out, HZ.out⟩
set_option maxRecDepth 8000 in
set_option maxHeartbeats 4000000 in
theorem plays_ans7 (h : RChGo w (K.foot cb) cb K sd x Z w) (hx : x.Inv) (hz : PicsOf x Z) (hs : sd < 18446744073709551616) (hW : x.s.W.length ≤ 8000) (hk : x.k.L.length ≤ 1000000) (hcy : x.cycle ≤ 1000000) (hlv : Lv x) (R : RdI .i64 w ao 1 cap ns) (hrf : ∀ b off, ao = some ⟨b, off, none⟩ → 0 < 1 → ¬ K.foot cb b) (hn0 : 0 ≤ ns.getD 0 0) (hw : wd.toList = [98, 97, 107, 101]) :
   Calls Tryz.prog 7 #[.pointer (some ⟨cb, 0, none⟩), .agg #[.string wd, .slice ao 1 cap]] w (PlayPost w (K.foot cb) cb sd (x.cmdOp sd 7 ns)) := by
 obtain ⟨wb, hwb⟩ : ∃ wb, w.alloc (.cells #[.string wd, .slice ao 1 cap] 30) = wb := ⟨_, rfl⟩
 obtain ⟨hp, hg, hb⟩ := pbx_new cb K sd x Z wd ao 1 cap ns w wb _ hwb h R hrf
 have ham := CS.bt_amt hx sd (ns.getD 0 0)
 have hle := CS.cmd_le x sd 7 ns
 obtain ⟨b, off, rfl, -⟩ := R.cells 0 (by decide)
 have HP := Lib.hid hp; have HG := Lib.hid hg; have HB := Lib.hid hb; have HZ := Lib.hid hz; have HX := Lib.hid hx; have HLE := Lib.hid hle
 have HG1 := Lib.hid (hg.drewN 1)
 have HFL := Lib.hid (fun i (q : K.foot cb i) => h.ch.footlt i q)
 have c0 : wb.cell? ⟨w.heap.size, 0, none⟩ = some (.string wd) := hp.c0
 have HC := Lib.hid (fun (wx : World) (K' : RChL) (y : CS) (Z' : List (List Int)) (q : RChGo wb (K.foot cb) cb K' sd y Z' wx) => show wx.cell? ⟨w.heap.size, 1, none⟩ = some (.slice (some ⟨b, off, none⟩) 1 cap) ∧ wx.cell? ⟨b, off, none⟩ = some (.int .i64 (ns.getD 0 0)) from by
   exact ⟨HP.out.b1 q.keep, by simpa using HP.out.n q.keep 0 (by decide)⟩)
 clear h hx hz hp hg hb R hrf hle
 have HAM := Lib.hid ham; clear ham
 have hv1 := itoaB_size (v := x.btV sd (ns.getD 0 0)) ⟨by have := HAM.out.1.1; omega, Int.le_trans HAM.out.1.2 (by decide)⟩
 have hv2 := itoaB_size (v := x.btN sd (ns.getD 0 0)) ⟨by have := HAM.out.2.1; omega, Int.le_trans HAM.out.2.2 (by decide)⟩
 obtain ⟨e1, e2⟩ := HC.out _ _ _ _ HG.out
 have HD1 := Lib.hid (fun wx => ref_Decimal _ HAM.out.1.1 (Int.le_trans HAM.out.1.2 (by decide)) wx)
 have HD2 := Lib.hid (fun wx => ref_Decimal _ HAM.out.2.1 (Int.le_trans HAM.out.2.2 (by decide)) wx)
 have HBT := Lib.hid (refc_BakeTurn wb (K.foot cb) cb K sd x Z wb (ns.getD 0 0) HG.out HX.out HZ.out hs hW hk)
 have HEQ := Lib.hid (show x.cmdOp sd 7 ns = (itoaB (x.btV sd (ns.getD 0 0)) ++ spB ++ itoaB (x.btN sd (ns.getD 0 0)), x.turnC (ns.getD 0 0), x.btS sd (ns.getD 0 0)) from rfl)
 rw [HEQ.out]
 rw [HEQ.out] at HLE
 simp only at HLE
 generalize x.btV sd (ns.getD 0 0) = v1 at *
 generalize x.btN sd (ns.getD 0 0) = v2 at *
 generalize x.btS sd (ns.getD 0 0) = z at *
 generalize x.turnC (ns.getD 0 0) = tc at *
 have hb2 : ¬ (9223372036854775807 < (itoaB v1).size + 1) := by omega
 have hb3 : ¬ (9223372036854775807 < (itoaB v1).size + 1 + (itoaB v2).size) := by omega
 have ha3 : ¬ (9223372036854775807 < (itoaB v1 ++ (⟨#[32]⟩ : ByteArray)).size + (itoaB v2).size) := by rw [ByteArray.size_append]; exact hb3
 go_enter Tryz.func7, Tryz.ntmps7
 go_wp2_with fail
 refine HBT.out.mono ?_
 rintro y wa ⟨rfl, K2, Z2, g2, p2⟩
 have H1 := Lib.hid g2; have HP2 := Lib.hid p2; clear g2 p2
 go_wp2_with fail
 refine (HD1.out _).mono ?_
 rintro y wc ⟨rfl, k2⟩
 have H2 := Lib.hid (H1.out.below k2); clear k2
 go_wp2_with fail
 refine (HD2.out _).mono ?_
 rintro y wd ⟨rfl, k3⟩
 have H3 := Lib.hid (H2.out.below k3); clear k3
 go_wp2_with fail
 refine (law3_orElse _ HLE.out _ _).mono ?_
 rintro y we ⟨rfl, k4⟩
 have H4 := Lib.hid (H3.out.below k4); clear k4
 go_wp2_with fail
 go_ret
 exact ⟨rfl, _, _, H4.out.since HB.out HFL.out, HP2.out⟩
set_option maxRecDepth 8000 in
set_option maxHeartbeats 4000000 in
theorem plays_ans9 (h : RChGo w (K.foot cb) cb K sd x Z w) (hx : x.Inv) (hz : PicsOf x Z) (hs : sd < 18446744073709551616) (hW : x.s.W.length ≤ 8000) (hk : x.k.L.length ≤ 1000000) (hcy : x.cycle ≤ 1000000) (hlv : Lv x) (R : RdI .i64 w ao 1 cap ns) (hrf : ∀ b off, ao = some ⟨b, off, none⟩ → 0 < 1 → ¬ K.foot cb b) (hn0 : 0 ≤ ns.getD 0 0) (hw : wd.toList = [115, 116, 97, 107, 101, 100]) :
   Calls Tryz.prog 7 #[.pointer (some ⟨cb, 0, none⟩), .agg #[.string wd, .slice ao 1 cap]] w (PlayPost w (K.foot cb) cb sd (x.cmdOp sd 9 ns)) := by
 obtain ⟨wb, hwb⟩ : ∃ wb, w.alloc (.cells #[.string wd, .slice ao 1 cap] 30) = wb := ⟨_, rfl⟩
 obtain ⟨hp, hg, hb⟩ := pbx_new cb K sd x Z wd ao 1 cap ns w wb _ hwb h R hrf
 have ham := SS.staked_amt hx.s (ns.getD 0 0)
 obtain ⟨L, wv, hL, -, -⟩ := h.ch.st
 have hle := CS.cmd_le x sd 9 ns
 obtain ⟨b, off, rfl, -⟩ := R.cells 0 (by decide)
 have HP := Lib.hid hp; have HG := Lib.hid hg; have HB := Lib.hid hb; have HZ := Lib.hid hz; have HX := Lib.hid hx; have HLE := Lib.hid hle
 have HG1 := Lib.hid (hg.drewN 1)
 have HFL := Lib.hid (fun i (q : K.foot cb i) => h.ch.footlt i q)
 have c0 : wb.cell? ⟨w.heap.size, 0, none⟩ = some (.string wd) := hp.c0
 have HC := Lib.hid (fun (wx : World) (K' : RChL) (y : CS) (Z' : List (List Int)) (q : RChGo wb (K.foot cb) cb K' sd y Z' wx) (e1 : K'.sb = K.sb) => show wx.cell? ⟨w.heap.size, 1, none⟩ = some (.slice (some ⟨b, off, none⟩) 1 cap) ∧ wx.cell? ⟨b, off, none⟩ = some (.int .i64 (ns.getD 0 0)) ∧ wx.cell? ⟨cb, 1, none⟩ = some (.pointer (some ⟨K.sb, 0, none⟩)) from by
   exact ⟨HP.out.b1 q.keep, by simpa using HP.out.n q.keep 0 (by decide), by rw [← e1]; exact q.c1⟩)
 clear h hx hz hp hg hb R hrf hle
 have HAM := Lib.hid ham; clear ham
 have HL := Lib.hid (fun (wx : World) (k : Below w.heap.size w wx) => hL.keep (G := fun _ => False) (Keep.of_below k) (fun _ _ => id))
 have HD := Lib.hid (fun wx => ref_Decimal _ HAM.out.1 (Int.le_trans HAM.out.2 (by decide)) wx)
 go_enter Tryz.func7, Tryz.ntmps7
 go_wp2_with fail
 go_region_held3 (fun w' => w'.cell? ⟨w.heap.size, 1, none⟩ = some (.slice (some ⟨b, off, none⟩) 1 cap) ∧ w'.cell? ⟨b, off, none⟩ = some (.int .i64 (ns.getD 0 0)) ∧ w'.cell? ⟨cb, 1, none⟩ = some (.pointer (some ⟨K.sb, 0, none⟩))) (first | exact HC.out _ _ _ _ H2.out rfl | exact HC.out _ _ _ _ H1.out rfl | exact HC.out _ _ _ _ HG.out rfl | exact HC.out _ _ _ _ (HG.out.drewN _) rfl)
   (first
     | (go_at_call 27; refine (refs_Staked K.sb L wv x.s _ (ns.getD 0 0) (HL.out _ ((HB.out).drewN 1))).mono ?_; rintro y wa ⟨rfl, rfl⟩; have H1 := Lib.hid (HG1.out))
     | (go_at_call 18; refine (HD.out _).mono ?_; rintro y wc ⟨rfl, kb⟩; have H2 := Lib.hid (H1.out.below kb)))
 all_goals
   go_wp2_with fail
   go_ret
   exact ⟨rfl, _, _, H2.out.since HB.out HFL.out, HZ.out⟩
set_option maxRecDepth 8000 in
set_option maxHeartbeats 4000000 in
theorem plays_ans10 (h : RChGo w (K.foot cb) cb K sd x Z w) (hx : x.Inv) (hz : PicsOf x Z) (hs : sd < 18446744073709551616) (hW : x.s.W.length ≤ 8000) (hk : x.k.L.length ≤ 1000000) (hcy : x.cycle ≤ 1000000) (hlv : Lv x) (R : RdI .i64 w ao 2 cap ns) (hrf : ∀ b off, ao = some ⟨b, off, none⟩ → 0 < 2 → ¬ K.foot cb b) (hn0 : 0 ≤ ns.getD 0 0) (hw : wd.toList = [118, 97, 108, 117, 101]) :
   Calls Tryz.prog 7 #[.pointer (some ⟨cb, 0, none⟩), .agg #[.string wd, .slice ao 2 cap]] w (PlayPost w (K.foot cb) cb sd (x.cmdOp sd 10 ns)) := by
 obtain ⟨wb, hwb⟩ : ∃ wb, w.alloc (.cells #[.string wd, .slice ao 2 cap] 30) = wb := ⟨_, rfl⟩
 obtain ⟨hp, hg, hb⟩ := pbx_new cb K sd x Z wd ao 2 cap ns w wb _ hwb h R hrf
 have ham := SS.value_amt hx.s (ns.getD 0 0) (ns.getD 1 0)
 obtain ⟨L, wv, hL, -, -⟩ := h.ch.st
 have hle := CS.cmd_le x sd 10 ns
 obtain ⟨b, off, rfl, -⟩ := R.cells 0 (by decide)
 have HP := Lib.hid hp; have HG := Lib.hid hg; have HB := Lib.hid hb; have HZ := Lib.hid hz; have HX := Lib.hid hx; have HLE := Lib.hid hle
 have HG1 := Lib.hid (hg.drewN 1)
 have HFL := Lib.hid (fun i (q : K.foot cb i) => h.ch.footlt i q)
 have c0 : wb.cell? ⟨w.heap.size, 0, none⟩ = some (.string wd) := hp.c0
 have HC := Lib.hid (fun (wx : World) (K' : RChL) (y : CS) (Z' : List (List Int)) (q : RChGo wb (K.foot cb) cb K' sd y Z' wx) (e1 : K'.sb = K.sb) => show wx.cell? ⟨w.heap.size, 1, none⟩ = some (.slice (some ⟨b, off, none⟩) 2 cap) ∧ wx.cell? ⟨b, off, none⟩ = some (.int .i64 (ns.getD 0 0)) ∧ wx.cell? ⟨b, off + 1, none⟩ = some (.int .i64 (ns.getD 1 0)) ∧ wx.cell? ⟨cb, 1, none⟩ = some (.pointer (some ⟨K.sb, 0, none⟩)) from by
   exact ⟨HP.out.b1 q.keep, by simpa using HP.out.n q.keep 0 (by decide), by simpa using HP.out.n q.keep 1 (by decide), by rw [← e1]; exact q.c1⟩)
 clear h hx hz hp hg hb R hrf hle
 have HAM := Lib.hid ham; clear ham
 have HL := Lib.hid (fun (wx : World) (k : Below w.heap.size w wx) => hL.keep (G := fun _ => False) (Keep.of_below k) (fun _ _ => id))
 have HD := Lib.hid (fun wx => ref_Decimal _ HAM.out.1 (Int.le_trans HAM.out.2 (by decide)) wx)
 go_enter Tryz.func7, Tryz.ntmps7
 go_wp2_with fail
 go_region_held3 (fun w' => w'.cell? ⟨w.heap.size, 1, none⟩ = some (.slice (some ⟨b, off, none⟩) 2 cap) ∧ w'.cell? ⟨b, off, none⟩ = some (.int .i64 (ns.getD 0 0)) ∧ w'.cell? ⟨b, off + 1, none⟩ = some (.int .i64 (ns.getD 1 0)) ∧ w'.cell? ⟨cb, 1, none⟩ = some (.pointer (some ⟨K.sb, 0, none⟩))) (first | exact HC.out _ _ _ _ H2.out rfl | exact HC.out _ _ _ _ H1.out rfl | exact HC.out _ _ _ _ HG.out rfl | exact HC.out _ _ _ _ (HG.out.drewN _) rfl)
   (first
     | (go_at_call 28; refine (refs_Value K.sb L wv x.s _ (ns.getD 0 0) (ns.getD 1 0) (HL.out _ ((HB.out).drewN 1))).mono ?_; rintro y wa ⟨rfl, ka⟩; have H1 := Lib.hid (HG1.out.dr ka))
     | (go_at_call 18; refine (HD.out _).mono ?_; rintro y wc ⟨rfl, kb⟩; have H2 := Lib.hid (H1.out.below kb)))
 all_goals
   go_wp2_with fail
   go_ret
   exact ⟨rfl, _, _, H2.out.since HB.out HFL.out, HZ.out⟩
set_option maxRecDepth 8000 in
set_option maxHeartbeats 4000000 in
theorem plays_ans11 (h : RChGo w (K.foot cb) cb K sd x Z w) (hx : x.Inv) (hz : PicsOf x Z) (hs : sd < 18446744073709551616) (hW : x.s.W.length ≤ 8000) (hk : x.k.L.length ≤ 1000000) (hcy : x.cycle ≤ 1000000) (hlv : Lv x) (R : RdI .i64 w ao 3 cap ns) (hrf : ∀ b off, ao = some ⟨b, off, none⟩ → 0 < 3 → ¬ K.foot cb b) (hn0 : 0 ≤ ns.getD 0 0) (hw : wd.toList = [119, 97, 105, 116, 115]) :
   Calls Tryz.prog 7 #[.pointer (some ⟨cb, 0, none⟩), .agg #[.string wd, .slice ao 3 cap]] w (PlayPost w (K.foot cb) cb sd (x.cmdOp sd 11 ns)) := by
 obtain ⟨wb, hwb⟩ : ∃ wb, w.alloc (.cells #[.string wd, .slice ao 3 cap] 30) = wb := ⟨_, rfl⟩
 obtain ⟨hp, hg, hb⟩ := pbx_new cb K sd x Z wd ao 3 cap ns w wb _ hwb h R hrf
 have ham := SS.waits_amt hx.s (ns.getD 0 0) (ns.getD 1 0) (ns.getD 2 0)
 obtain ⟨L, wv, hL, -, -⟩ := h.ch.st
 have hle := CS.cmd_le x sd 11 ns
 obtain ⟨b, off, rfl, -⟩ := R.cells 0 (by decide)
 have HP := Lib.hid hp; have HG := Lib.hid hg; have HB := Lib.hid hb; have HZ := Lib.hid hz; have HX := Lib.hid hx; have HLE := Lib.hid hle
 have HG1 := Lib.hid (hg.drewN 1)
 have HFL := Lib.hid (fun i (q : K.foot cb i) => h.ch.footlt i q)
 have c0 : wb.cell? ⟨w.heap.size, 0, none⟩ = some (.string wd) := hp.c0
 have HC := Lib.hid (fun (wx : World) (K' : RChL) (y : CS) (Z' : List (List Int)) (q : RChGo wb (K.foot cb) cb K' sd y Z' wx) (e1 : K'.sb = K.sb) => show wx.cell? ⟨w.heap.size, 1, none⟩ = some (.slice (some ⟨b, off, none⟩) 3 cap) ∧ wx.cell? ⟨b, off, none⟩ = some (.int .i64 (ns.getD 0 0)) ∧ wx.cell? ⟨b, off + 1, none⟩ = some (.int .i64 (ns.getD 1 0)) ∧ wx.cell? ⟨b, off + 2, none⟩ = some (.int .i64 (ns.getD 2 0)) ∧ wx.cell? ⟨cb, 1, none⟩ = some (.pointer (some ⟨K.sb, 0, none⟩)) from by
   exact ⟨HP.out.b1 q.keep, by simpa using HP.out.n q.keep 0 (by decide), by simpa using HP.out.n q.keep 1 (by decide), by simpa using HP.out.n q.keep 2 (by decide), by rw [← e1]; exact q.c1⟩)
 clear h hx hz hp hg hb R hrf hle
 have HAM := Lib.hid ham; clear ham
 have HL := Lib.hid (fun (wx : World) (k : Below w.heap.size w wx) => hL.keep (G := fun _ => False) (Keep.of_below k) (fun _ _ => id))
 have HD := Lib.hid (fun wx => ref_Decimal _ HAM.out.1 (Int.le_trans HAM.out.2 (by decide)) wx)
 go_enter Tryz.func7, Tryz.ntmps7
 go_wp2_with fail
 go_region_held3 (fun w' => w'.cell? ⟨w.heap.size, 1, none⟩ = some (.slice (some ⟨b, off, none⟩) 3 cap) ∧ w'.cell? ⟨b, off, none⟩ = some (.int .i64 (ns.getD 0 0)) ∧ w'.cell? ⟨b, off + 1, none⟩ = some (.int .i64 (ns.getD 1 0)) ∧ w'.cell? ⟨b, off + 2, none⟩ = some (.int .i64 (ns.getD 2 0)) ∧ w'.cell? ⟨cb, 1, none⟩ = some (.pointer (some ⟨K.sb, 0, none⟩))) (first | exact HC.out _ _ _ _ H2.out rfl | exact HC.out _ _ _ _ H1.out rfl | exact HC.out _ _ _ _ HG.out rfl | exact HC.out _ _ _ _ (HG.out.drewN _) rfl)
   (first
     | (go_at_call 29; refine (refs_Waits K.sb L wv x.s _ (ns.getD 0 0) (ns.getD 1 0) (ns.getD 2 0) (HL.out _ ((HB.out).drewN 1))).mono ?_; rintro y wa ⟨rfl, ka⟩; have H1 := Lib.hid (HG1.out.dr ka))
     | (go_at_call 18; refine (HD.out _).mono ?_; rintro y wc ⟨rfl, kb⟩; have H2 := Lib.hid (H1.out.below kb)))
 all_goals
   go_wp2_with fail
   go_ret
   exact ⟨rfl, _, _, H2.out.since HB.out HFL.out, HZ.out⟩
end
end Go.Proofs.YtajnfkmkombajaaGreatDoor
