/-
  Scripts: what each command's own text does.
-/
import Derived.Test.YtajnfkmkombajabGreatDoorQSR03
import Derived.Test.YtajnfkmkombajabGreatDoorQSR24
import Derived.Deep.RegionWith
import Derived.Deep.RegionHeld3
import Derived.Deep.QuietTactic
import Derived.BigQuiet
set_option linter.unusedVariables false
set_option linter.unusedSimpArgs false
set_option linter.unusedVariables false
namespace Go.Proofs.YtajnfkmkombajabGreatDoor
open Go.RowKit Go.Maps

/-- since w: what is left of the chain -/
def Left (w : World) (F : Nat → Prop) (cb sd m : Nat) (y : CS) (w' : World) : Prop := ∃ K' n', n' ≤ m ∧ ChGo w F cb K' n' sd y w'
/-- a player's block pb, its chain new since W -/
structure CmdIn (A : Nat → Addr) (W : World) (cb : Nat) (K : ChL) (n sd : Nat) (x : CS) (pb : Nat) (w : World) : Prop where
  cn : CN W cb K n sd x w
  lw : Lw A W
  inv : x.Inv
  sd : sd < 18446744073709551616
  p0 : w.cell? ⟨pb, 0, none⟩ = some (.pointer (some ⟨cb, 0, none⟩))
  pf : ¬ K.foot cb pb
  w8 : x.s.W.length ≤ 8000
  n9 : n ≤ 900000
  k9 : x.k.L.length ≤ 900000
  cy : x.cycle ≤ 1000000
  lv : x.level ≤ 4194305
section
variable {A : Nat → Addr} {W w w' w2 : World} {cb n m sd pb : Nat} {K K' : ChL} {x y : CS} {F : Nat → Prop}
theorem CmdIn.next (h : CmdIn A W cb K n sd x pb w) (k : Below w.heap.size w w') : CmdIn A W cb K n sd x pb w' :=
  ⟨h.cn.next k, h.lw, h.inv, h.sd, by rw [k.cell (World.block_lt_of_cell? w _ h.p0)]; exact h.p0, h.pf, h.w8, h.n9, h.k9, h.cy, h.lv⟩
theorem CmdIn.drewN (h : CmdIn A W cb K n sd x pb w) (j : Nat) : CmdIn A W cb K n sd x pb (w.drewN j) := h.next ((Below.refl _ _).drewN j)
theorem CmdIn.errs (h : CmdIn A W cb K n sd x pb w) : Errs A [1, 2, 3, 4, 5, 6, 7, 8, 9, 10] w ∧ ∀ c ∈ [1, 2, 3, 4, 5, 6, 7, 8, 9, 10], ¬ K.foot cb (gE c) :=
  ⟨h.cn.errs h.lw.sents.errs, h.cn.fe h.lw.sents.errs⟩
theorem CmdIn.lib (h : CmdIn A W cb K n sd x pb w) : Lw A w := h.lw.below h.cn.below
theorem ChGo.earlier {w0 w1 w2 : World} (g : ChGo w1 F cb K' m sd y w2) (b : Below w0.heap.size w0 w1) (hF : ∀ b, F b → b < w0.heap.size) : ChGo w0 F cb K' m sd y w2 :=
  ⟨(Keep.of_below b).andThen g.keep (fun b hb => .inl hb), g.ch, fun c hc => (g.foot c hc).imp id (fun e => ⟨Nat.le_trans b.size e.1, e.2⟩), hF⟩
theorem CmdIn.left (h : CmdIn A W cb K n sd x pb w) (b : Below w.heap.size w w') (g : ChGo w' (K.foot cb) cb K' m sd y w2) {q : Nat} (hq : m ≤ q) : Left w (K.foot cb) cb sd q y w2 := ⟨K', m, hq, g.earlier b h.cn.ch.footlt⟩
theorem CmdIn.same (h : CmdIn A W cb K n sd x pb w) (b : Below w.heap.size w w') {q : Nat} (hq : n ≤ q) : Left w (K.foot cb) cb sd q x w' := ⟨K, n, hq, h.cn.go.below b⟩
theorem Left.below {q : Nat} (h : Left w F cb sd q y w') (b : Below w'.heap.size w' w2) : Left w F cb sd q y w2 := by
  obtain ⟨K', m, h1, h2⟩ := h; exact ⟨K', m, h1, h2.below b⟩
end

set_option maxRecDepth 8000 in
set_option maxHeartbeats 1000000 in
theorem scr_cmd0 (A : Nat → Addr) (W : World) (cb : Nat) (K : ChL) (n sd : Nat) (x : CS) (pb : Nat) (w : World) (ao : Option Addr) (cap : Nat) (ns : List Int) (h : CmdIn A W cb K n sd x pb w) (R : RdI .i64 w ao 3 cap ns) (hb : ∀ a, ao = some a → ¬ K.foot cb a.block) (hns : ∀ v ∈ ns, 0 ≤ v ∧ v ≤ 9999999) :
    Calls Tryz.prog 37 #[.pointer (some ⟨pb, 0, none⟩), .slice ao 3 cap] w fun e w' => e = .returned (ev A (x.cmdOp sd 0 ns).2.1) ∧ Left w (K.foot cb) cb sd (n + 6 + x.s.W.length) (x.cmdOp sd 0 ns).2.2 w' := by
  have m2 : (2 : Nat) ∈ [1, 2, 3, 4, 5, 6, 7, 8, 9, 10] := by decide
  have m3 : (3 : Nat) ∈ [1, 2, 3, 4, 5, 6, 7, 8, 9, 10] := by decide
  have m4 : (4 : Nat) ∈ [1, 2, 3, 4, 5, 6, 7, 8, 9, 10] := by decide
  have m5 : (5 : Nat) ∈ [1, 2, 3, 4, 5, 6, 7, 8, 9, 10] := by decide
  have m6 : (6 : Nat) ∈ [1, 2, 3, 4, 5, 6, 7, 8, 9, 10] := by decide
  have m7 : (7 : Nat) ∈ [1, 2, 3, 4, 5, 6, 7, 8, 9, 10] := by decide
  have m8 : (8 : Nat) ∈ [1, 2, 3, 4, 5, 6, 7, 8, 9, 10] := by decide
  have m9 : (9 : Nat) ∈ [1, 2, 3, 4, 5, 6, 7, 8, 9, 10] := by decide
  have m10 : (10 : Nat) ∈ [1, 2, 3, 4, 5, 6, 7, 8, 9, 10] := by decide
  obtain ⟨b, off, rfl, n0⟩ := R.cells 0 (by decide)
  rw [Nat.add_zero] at n0
  obtain ⟨_, _, e1, n1⟩ := R.cells 1 (by decide)
  cases e1
  obtain ⟨_, _, e2, n2⟩ := R.cells 2 (by decide)
  cases e2
  have hbn := hb _ rfl
  simp only at hbn
  have H := Lib.hid h
  have HX := Lib.hid h.inv
  have HE1 := Lib.hid (h.drewN 1).errs
  have hW := h.w8; have hn := h.n9; have hk := h.k9; have hcy := h.cy; have hcy0 := h.inv.cy
  have hml : n + 1 < maxLen := by unfold maxLen; omega
  have hmw : n + x.s.W.length < maxLen := by unfold maxLen; omega
  have hcyw : (Lit.int .i64 x.cycle).wf = true := WalkArith.wf_i64 (by omega)
  have HM := Lib.hid (And.intro hml hmw); clear hml hmw
  have p0 := h.p0
  have HS0 := Lib.hid (fun j => show (w.drewN j).cell? ⟨pb, 0, none⟩ = some (.pointer (some ⟨cb, 0, none⟩)) ∧ (w.drewN j).cell? ⟨b, off, none⟩ = some (.int .i64 (ns.getD 0 0)) ∧ (w.drewN j).cell? ⟨b, off + 1, none⟩ = some (.int .i64 (ns.getD 1 0)) ∧ (w.drewN j).cell? ⟨b, off + 2, none⟩ = some (.int .i64 (ns.getD 2 0)) from ⟨p0, n0, n1, n2⟩)
  have HKP := Lib.hid (fun w2 (q : Keep (K.foot cb) (w.drewN 1) w2) => show w2.cell? ⟨pb, 0, none⟩ = some (.pointer (some ⟨cb, 0, none⟩)) ∧ w2.cell? ⟨b, off, none⟩ = some (.int .i64 (ns.getD 0 0)) ∧ w2.cell? ⟨b, off + 1, none⟩ = some (.int .i64 (ns.getD 1 0)) ∧ w2.cell? ⟨b, off + 2, none⟩ = some (.int .i64 (ns.getD 2 0)) from ⟨by rw [q.cell (p := ⟨pb, 0, none⟩) (World.block_lt_of_cell? (w.drewN 1) _ p0) h.pf]; exact p0, by rw [q.cell (p := ⟨b, off, none⟩) (World.block_lt_of_cell? (w.drewN 1) _ n0) hbn]; exact n0, by rw [q.cell (p := ⟨b, off + 1, none⟩) (World.block_lt_of_cell? (w.drewN 1) _ n1) hbn]; exact n1, by rw [q.cell (p := ⟨b, off + 2, none⟩) (World.block_lt_of_cell? (w.drewN 1) _ n2) hbn]; exact n2⟩)
  clear h R hb hns hbn
  go_enter Tryz.func37, Tryz.ntmps37
  go_wp2_with fail
  go_region_held3 (fun w' => w'.cell? ⟨pb, 0, none⟩ = some (.pointer (some ⟨cb, 0, none⟩)) ∧ w'.cell? ⟨b, off, none⟩ = some (.int .i64 (ns.getD 0 0)) ∧ w'.cell? ⟨b, off + 1, none⟩ = some (.int .i64 (ns.getD 1 0)) ∧ w'.cell? ⟨b, off + 2, none⟩ = some (.int .i64 (ns.getD 2 0))) (first | exact HSA.out | exact HS0.out _)
    ((go_at_call 38; refine (chain_Pay A [1, 2, 3, 4, 5, 6, 7, 8, 9, 10] _ (K.foot cb) cb K n sd x _ (ns.getD 0 0) (ns.getD 1 0) (ns.getD 2 0) (H.out.drewN 1).cn.go HE1.out.1 HE1.out.2 m2 m6).mono ?_; rintro y w2 ⟨rfl, g⟩; have H1 := Lib.hid g; have HSA := Lib.hid (HKP.out _ g.keep)))
  all_goals
    go_wp2_with fail
    go_ret
    exact ⟨rfl, H.out.left ((Below.refl _ _).drewN 1) H1.out (by omega)⟩

set_option maxRecDepth 8000 in
set_option maxHeartbeats 1000000 in
theorem scr_cmd1 (A : Nat → Addr) (W : World) (cb : Nat) (K : ChL) (n sd : Nat) (x : CS) (pb : Nat) (w : World) (ao : Option Addr) (cap : Nat) (ns : List Int) (h : CmdIn A W cb K n sd x pb w) (R : RdI .i64 w ao 3 cap ns) (hb : ∀ a, ao = some a → ¬ K.foot cb a.block) (hns : ∀ v ∈ ns, 0 ≤ v ∧ v ≤ 9999999) :
    Calls Tryz.prog 39 #[.pointer (some ⟨pb, 0, none⟩), .slice ao 3 cap] w fun e w' => e = .returned (ev A (x.cmdOp sd 1 ns).2.1) ∧ Left w (K.foot cb) cb sd (n + 6 + x.s.W.length) (x.cmdOp sd 1 ns).2.2 w' := by
  have m2 : (2 : Nat) ∈ [1, 2, 3, 4, 5, 6, 7, 8, 9, 10] := by decide
  have m3 : (3 : Nat) ∈ [1, 2, 3, 4, 5, 6, 7, 8, 9, 10] := by decide
  have m4 : (4 : Nat) ∈ [1, 2, 3, 4, 5, 6, 7, 8, 9, 10] := by decide
  have m5 : (5 : Nat) ∈ [1, 2, 3, 4, 5, 6, 7, 8, 9, 10] := by decide
  have m6 : (6 : Nat) ∈ [1, 2, 3, 4, 5, 6, 7, 8, 9, 10] := by decide
  have m7 : (7 : Nat) ∈ [1, 2, 3, 4, 5, 6, 7, 8, 9, 10] := by decide
  have m8 : (8 : Nat) ∈ [1, 2, 3, 4, 5, 6, 7, 8, 9, 10] := by decide
  have m9 : (9 : Nat) ∈ [1, 2, 3, 4, 5, 6, 7, 8, 9, 10] := by decide
  have m10 : (10 : Nat) ∈ [1, 2, 3, 4, 5, 6, 7, 8, 9, 10] := by decide
  obtain ⟨b, off, rfl, n0⟩ := R.cells 0 (by decide)
  rw [Nat.add_zero] at n0
  obtain ⟨_, _, e1, n1⟩ := R.cells 1 (by decide)
  cases e1
  obtain ⟨_, _, e2, n2⟩ := R.cells 2 (by decide)
  cases e2
  have hbn := hb _ rfl
  simp only at hbn
  have H := Lib.hid h
  have HX := Lib.hid h.inv
  have HE1 := Lib.hid (h.drewN 1).errs
  have hW := h.w8; have hn := h.n9; have hk := h.k9; have hcy := h.cy; have hcy0 := h.inv.cy
  have hml : n + 1 < maxLen := by unfold maxLen; omega
  have hmw : n + x.s.W.length < maxLen := by unfold maxLen; omega
  have hcyw : (Lit.int .i64 x.cycle).wf = true := WalkArith.wf_i64 (by omega)
  have HM := Lib.hid (And.intro hml hmw); clear hml hmw
  have p0 := h.p0
  have HS0 := Lib.hid (fun j => show (w.drewN j).cell? ⟨pb, 0, none⟩ = some (.pointer (some ⟨cb, 0, none⟩)) ∧ (w.drewN j).cell? ⟨b, off, none⟩ = some (.int .i64 (ns.getD 0 0)) ∧ (w.drewN j).cell? ⟨b, off + 1, none⟩ = some (.int .i64 (ns.getD 1 0)) ∧ (w.drewN j).cell? ⟨b, off + 2, none⟩ = some (.int .i64 (ns.getD 2 0)) from ⟨p0, n0, n1, n2⟩)
  have HKP := Lib.hid (fun w2 (q : Keep (K.foot cb) (w.drewN 1) w2) => show w2.cell? ⟨pb, 0, none⟩ = some (.pointer (some ⟨cb, 0, none⟩)) ∧ w2.cell? ⟨b, off, none⟩ = some (.int .i64 (ns.getD 0 0)) ∧ w2.cell? ⟨b, off + 1, none⟩ = some (.int .i64 (ns.getD 1 0)) ∧ w2.cell? ⟨b, off + 2, none⟩ = some (.int .i64 (ns.getD 2 0)) from ⟨by rw [q.cell (p := ⟨pb, 0, none⟩) (World.block_lt_of_cell? (w.drewN 1) _ p0) h.pf]; exact p0, by rw [q.cell (p := ⟨b, off, none⟩) (World.block_lt_of_cell? (w.drewN 1) _ n0) hbn]; exact n0, by rw [q.cell (p := ⟨b, off + 1, none⟩) (World.block_lt_of_cell? (w.drewN 1) _ n1) hbn]; exact n1, by rw [q.cell (p := ⟨b, off + 2, none⟩) (World.block_lt_of_cell? (w.drewN 1) _ n2) hbn]; exact n2⟩)
  clear h R hb hns hbn
  go_enter Tryz.func39, Tryz.ntmps39
  go_wp2_with fail
  go_region_held3 (fun w' => w'.cell? ⟨pb, 0, none⟩ = some (.pointer (some ⟨cb, 0, none⟩)) ∧ w'.cell? ⟨b, off, none⟩ = some (.int .i64 (ns.getD 0 0)) ∧ w'.cell? ⟨b, off + 1, none⟩ = some (.int .i64 (ns.getD 1 0)) ∧ w'.cell? ⟨b, off + 2, none⟩ = some (.int .i64 (ns.getD 2 0))) (first | exact HSA.out | exact HS0.out _)
    ((go_at_call 19; refine (chain_Stake A [1, 2, 3, 4, 5, 6, 7, 8, 9, 10] _ (K.foot cb) cb K n sd x _ (ns.getD 0 0) (ns.getD 1 0) (ns.getD 2 0) (H.out.drewN 1).cn.go HE1.out.1 HE1.out.2 m2 m4 m6 m7 m8 (by have := HM.out.1; omega)).mono ?_; rintro y w2 ⟨rfl, K2, g⟩; have H1 := Lib.hid g; have HSA := Lib.hid (HKP.out _ g.keep)))
  all_goals
    go_wp2_with fail
    go_ret
    exact ⟨rfl, H.out.left ((Below.refl _ _).drewN 1) H1.out (by omega)⟩

set_option maxRecDepth 8000 in
set_option maxHeartbeats 1000000 in
theorem scr_cmd2 (A : Nat → Addr) (W : World) (cb : Nat) (K : ChL) (n sd : Nat) (x : CS) (pb : Nat) (w : World) (ao : Option Addr) (cap : Nat) (ns : List Int) (h : CmdIn A W cb K n sd x pb w) (R : RdI .i64 w ao 3 cap ns) (hb : ∀ a, ao = some a → ¬ K.foot cb a.block) (hns : ∀ v ∈ ns, 0 ≤ v ∧ v ≤ 9999999) :
    Calls Tryz.prog 40 #[.pointer (some ⟨pb, 0, none⟩), .slice ao 3 cap] w fun e w' => e = .returned (ev A (x.cmdOp sd 2 ns).2.1) ∧ Left w (K.foot cb) cb sd (n + 6 + x.s.W.length) (x.cmdOp sd 2 ns).2.2 w' := by
  have m2 : (2 : Nat) ∈ [1, 2, 3, 4, 5, 6, 7, 8, 9, 10] := by decide
  have m3 : (3 : Nat) ∈ [1, 2, 3, 4, 5, 6, 7, 8, 9, 10] := by decide
  have m4 : (4 : Nat) ∈ [1, 2, 3, 4, 5, 6, 7, 8, 9, 10] := by decide
  have m5 : (5 : Nat) ∈ [1, 2, 3, 4, 5, 6, 7, 8, 9, 10] := by decide
  have m6 : (6 : Nat) ∈ [1, 2, 3, 4, 5, 6, 7, 8, 9, 10] := by decide
  have m7 : (7 : Nat) ∈ [1, 2, 3, 4, 5, 6, 7, 8, 9, 10] := by decide
  have m8 : (8 : Nat) ∈ [1, 2, 3, 4, 5, 6, 7, 8, 9, 10] := by decide
  have m9 : (9 : Nat) ∈ [1, 2, 3, 4, 5, 6, 7, 8, 9, 10] := by decide
  have m10 : (10 : Nat) ∈ [1, 2, 3, 4, 5, 6, 7, 8, 9, 10] := by decide
  obtain ⟨b, off, rfl, n0⟩ := R.cells 0 (by decide)
  rw [Nat.add_zero] at n0
  obtain ⟨_, _, e1, n1⟩ := R.cells 1 (by decide)
  cases e1
  obtain ⟨_, _, e2, n2⟩ := R.cells 2 (by decide)
  cases e2
  have hbn := hb _ rfl
  simp only at hbn
  have H := Lib.hid h
  have HX := Lib.hid h.inv
  have HE1 := Lib.hid (h.drewN 1).errs
  have hW := h.w8; have hn := h.n9; have hk := h.k9; have hcy := h.cy; have hcy0 := h.inv.cy
  have hml : n + 1 < maxLen := by unfold maxLen; omega
  have hmw : n + x.s.W.length < maxLen := by unfold maxLen; omega
  have hcyw : (Lit.int .i64 x.cycle).wf = true := WalkArith.wf_i64 (by omega)
  have HM := Lib.hid (And.intro hml hmw); clear hml hmw
  have p0 := h.p0
  have HS0 := Lib.hid (fun j => show (w.drewN j).cell? ⟨pb, 0, none⟩ = some (.pointer (some ⟨cb, 0, none⟩)) ∧ (w.drewN j).cell? ⟨b, off, none⟩ = some (.int .i64 (ns.getD 0 0)) ∧ (w.drewN j).cell? ⟨b, off + 1, none⟩ = some (.int .i64 (ns.getD 1 0)) ∧ (w.drewN j).cell? ⟨b, off + 2, none⟩ = some (.int .i64 (ns.getD 2 0)) from ⟨p0, n0, n1, n2⟩)
  have HKP := Lib.hid (fun w2 (q : Keep (K.foot cb) (w.drewN 1) w2) => show w2.cell? ⟨pb, 0, none⟩ = some (.pointer (some ⟨cb, 0, none⟩)) ∧ w2.cell? ⟨b, off, none⟩ = some (.int .i64 (ns.getD 0 0)) ∧ w2.cell? ⟨b, off + 1, none⟩ = some (.int .i64 (ns.getD 1 0)) ∧ w2.cell? ⟨b, off + 2, none⟩ = some (.int .i64 (ns.getD 2 0)) from ⟨by rw [q.cell (p := ⟨pb, 0, none⟩) (World.block_lt_of_cell? (w.drewN 1) _ p0) h.pf]; exact p0, by rw [q.cell (p := ⟨b, off, none⟩) (World.block_lt_of_cell? (w.drewN 1) _ n0) hbn]; exact n0, by rw [q.cell (p := ⟨b, off + 1, none⟩) (World.block_lt_of_cell? (w.drewN 1) _ n1) hbn]; exact n1, by rw [q.cell (p := ⟨b, off + 2, none⟩) (World.block_lt_of_cell? (w.drewN 1) _ n2) hbn]; exact n2⟩)
  clear h R hb hns hbn
  go_enter Tryz.func40, Tryz.ntmps40
  go_wp2_with fail
  go_region_held3 (fun w' => w'.cell? ⟨pb, 0, none⟩ = some (.pointer (some ⟨cb, 0, none⟩)) ∧ w'.cell? ⟨b, off, none⟩ = some (.int .i64 (ns.getD 0 0)) ∧ w'.cell? ⟨b, off + 1, none⟩ = some (.int .i64 (ns.getD 1 0)) ∧ w'.cell? ⟨b, off + 2, none⟩ = some (.int .i64 (ns.getD 2 0))) (first | exact HSA.out | exact HS0.out _)
    ((go_at_call 41; refine (chain_Unstake A [1, 2, 3, 4, 5, 6, 7, 8, 9, 10] _ (K.foot cb) cb K n sd x _ (ns.getD 0 0) (ns.getD 1 0) (ns.getD 2 0) (H.out.drewN 1).cn.go HE1.out.1 HE1.out.2 m2 m4 m6 m7 m8 HM.out.1 hcyw).mono ?_; rintro y w2 ⟨rfl, K2, g⟩; have H1 := Lib.hid g; have HSA := Lib.hid (HKP.out _ g.keep)))
  all_goals
    go_wp2_with fail
    go_ret
    exact ⟨rfl, H.out.left ((Below.refl _ _).drewN 1) H1.out (by omega)⟩

set_option maxRecDepth 8000 in
set_option maxHeartbeats 1000000 in
theorem scr_cmd3 (A : Nat → Addr) (W : World) (cb : Nat) (K : ChL) (n sd : Nat) (x : CS) (pb : Nat) (w : World) (ao : Option Addr) (cap : Nat) (ns : List Int) (h : CmdIn A W cb K n sd x pb w) (R : RdI .i64 w ao 4 cap ns) (hb : ∀ a, ao = some a → ¬ K.foot cb a.block) (hns : ∀ v ∈ ns, 0 ≤ v ∧ v ≤ 9999999) :
    Calls Tryz.prog 42 #[.pointer (some ⟨pb, 0, none⟩), .slice ao 4 cap] w fun e w' => e = .returned (ev A (x.cmdOp sd 3 ns).2.1) ∧ Left w (K.foot cb) cb sd (n + 6 + x.s.W.length) (x.cmdOp sd 3 ns).2.2 w' := by
  have m2 : (2 : Nat) ∈ [1, 2, 3, 4, 5, 6, 7, 8, 9, 10] := by decide
  have m3 : (3 : Nat) ∈ [1, 2, 3, 4, 5, 6, 7, 8, 9, 10] := by decide
  have m4 : (4 : Nat) ∈ [1, 2, 3, 4, 5, 6, 7, 8, 9, 10] := by decide
  have m5 : (5 : Nat) ∈ [1, 2, 3, 4, 5, 6, 7, 8, 9, 10] := by decide
  have m6 : (6 : Nat) ∈ [1, 2, 3, 4, 5, 6, 7, 8, 9, 10] := by decide
  have m7 : (7 : Nat) ∈ [1, 2, 3, 4, 5, 6, 7, 8, 9, 10] := by decide
  have m8 : (8 : Nat) ∈ [1, 2, 3, 4, 5, 6, 7, 8, 9, 10] := by decide
  have m9 : (9 : Nat) ∈ [1, 2, 3, 4, 5, 6, 7, 8, 9, 10] := by decide
  have m10 : (10 : Nat) ∈ [1, 2, 3, 4, 5, 6, 7, 8, 9, 10] := by decide
  obtain ⟨b, off, rfl, n0⟩ := R.cells 0 (by decide)
  rw [Nat.add_zero] at n0
  obtain ⟨_, _, e1, n1⟩ := R.cells 1 (by decide)
  cases e1
  obtain ⟨_, _, e2, n2⟩ := R.cells 2 (by decide)
  cases e2
  obtain ⟨_, _, e3, n3⟩ := R.cells 3 (by decide)
  cases e3
  have hbn := hb _ rfl
  simp only at hbn
  have H := Lib.hid h
  have HX := Lib.hid h.inv
  have HE1 := Lib.hid (h.drewN 1).errs
  have hW := h.w8; have hn := h.n9; have hk := h.k9; have hcy := h.cy; have hcy0 := h.inv.cy
  have hml : n + 1 < maxLen := by unfold maxLen; omega
  have hmw : n + x.s.W.length < maxLen := by unfold maxLen; omega
  have hcyw : (Lit.int .i64 x.cycle).wf = true := WalkArith.wf_i64 (by omega)
  have hmem : ∀ i, i < 4 → 0 ≤ ns.getD i 0 ∧ ns.getD i 0 ≤ 9999999 := fun i hi => hns _ (getD_mem ns i 0 (by rw [R.size]; exact hi))
  have hew : (EV.mk (ns.getD 1 0) (ns.getD 2 0) (ns.getD 3 0)).wf := ⟨show (Lit.int .i64 (ns.getD 1 0)).wf = true from WalkArith.wf_i64 (by have := hmem 1 (by decide); omega), show (Lit.int .i64 (ns.getD 2 0)).wf = true from WalkArith.wf_i64 (by have := hmem 2 (by decide); omega), show (Lit.int .i64 (ns.getD 3 0)).wf = true from WalkArith.wf_i64 (by have := hmem 3 (by decide); omega)⟩
  clear hmem
  have HM := Lib.hid (And.intro hml hmw); clear hml hmw
  have p0 := h.p0
  have HS0 := Lib.hid (fun j => show (w.drewN j).cell? ⟨pb, 0, none⟩ = some (.pointer (some ⟨cb, 0, none⟩)) ∧ (w.drewN j).cell? ⟨b, off, none⟩ = some (.int .i64 (ns.getD 0 0)) ∧ (w.drewN j).cell? ⟨b, off + 1, none⟩ = some (.int .i64 (ns.getD 1 0)) ∧ (w.drewN j).cell? ⟨b, off + 2, none⟩ = some (.int .i64 (ns.getD 2 0)) ∧ (w.drewN j).cell? ⟨b, off + 3, none⟩ = some (.int .i64 (ns.getD 3 0)) from ⟨p0, n0, n1, n2, n3⟩)
  have HKP := Lib.hid (fun w2 (q : Keep (K.foot cb) (w.drewN 1) w2) => show w2.cell? ⟨pb, 0, none⟩ = some (.pointer (some ⟨cb, 0, none⟩)) ∧ w2.cell? ⟨b, off, none⟩ = some (.int .i64 (ns.getD 0 0)) ∧ w2.cell? ⟨b, off + 1, none⟩ = some (.int .i64 (ns.getD 1 0)) ∧ w2.cell? ⟨b, off + 2, none⟩ = some (.int .i64 (ns.getD 2 0)) ∧ w2.cell? ⟨b, off + 3, none⟩ = some (.int .i64 (ns.getD 3 0)) from ⟨by rw [q.cell (p := ⟨pb, 0, none⟩) (World.block_lt_of_cell? (w.drewN 1) _ p0) h.pf]; exact p0, by rw [q.cell (p := ⟨b, off, none⟩) (World.block_lt_of_cell? (w.drewN 1) _ n0) hbn]; exact n0, by rw [q.cell (p := ⟨b, off + 1, none⟩) (World.block_lt_of_cell? (w.drewN 1) _ n1) hbn]; exact n1, by rw [q.cell (p := ⟨b, off + 2, none⟩) (World.block_lt_of_cell? (w.drewN 1) _ n2) hbn]; exact n2, by rw [q.cell (p := ⟨b, off + 3, none⟩) (World.block_lt_of_cell? (w.drewN 1) _ n3) hbn]; exact n3⟩)
  clear h R hb hns hbn
  go_enter Tryz.func42, Tryz.ntmps42
  go_wp2_with fail
  go_region_held3 (fun w' => w'.cell? ⟨pb, 0, none⟩ = some (.pointer (some ⟨cb, 0, none⟩)) ∧ w'.cell? ⟨b, off, none⟩ = some (.int .i64 (ns.getD 0 0)) ∧ w'.cell? ⟨b, off + 1, none⟩ = some (.int .i64 (ns.getD 1 0)) ∧ w'.cell? ⟨b, off + 2, none⟩ = some (.int .i64 (ns.getD 2 0)) ∧ w'.cell? ⟨b, off + 3, none⟩ = some (.int .i64 (ns.getD 3 0))) (first | exact HSA.out | exact HS0.out _)
    ((go_at_call 43; refine (chain_Accuse A [1, 2, 3, 4, 5, 6, 7, 8, 9, 10] _ (K.foot cb) cb K n sd x _ (ns.getD 0 0) ⟨(ns.getD 1 0), (ns.getD 2 0), (ns.getD 3 0)⟩ (H.out.drewN 1).cn.go HE1.out.1 HE1.out.2 m2 m5 m10 hew (by omega) (by omega)).mono ?_; rintro y w2 ⟨rfl, K2, g⟩; have H1 := Lib.hid g; have HSA := Lib.hid (HKP.out _ g.keep)))
  all_goals
    go_wp2_with fail
    go_ret
    exact ⟨rfl, H.out.left ((Below.refl _ _).drewN 1) H1.out (by omega)⟩

set_option maxRecDepth 8000 in
set_option maxHeartbeats 1000000 in
theorem scr_cmd5 (A : Nat → Addr) (W : World) (cb : Nat) (K : ChL) (n sd : Nat) (x : CS) (pb : Nat) (w : World) (ao : Option Addr) (cap : Nat) (ns : List Int) (h : CmdIn A W cb K n sd x pb w) (R : RdI .i64 w ao 1 cap ns) (hb : ∀ a, ao = some a → ¬ K.foot cb a.block) (hns : ∀ v ∈ ns, 0 ≤ v ∧ v ≤ 9999999) :
    Calls Tryz.prog 47 #[.pointer (some ⟨pb, 0, none⟩), .slice ao 1 cap] w fun e w' => e = .returned (.tuple #[.int .i64 (x.freeOp (ns.getD 0 0)).1, ev A (x.cmdOp sd 5 ns).2.1]) ∧ Left w (K.foot cb) cb sd (n + 6 + x.s.W.length) (x.cmdOp sd 5 ns).2.2 w' := by
  have m2 : (2 : Nat) ∈ [1, 2, 3, 4, 5, 6, 7, 8, 9, 10] := by decide
  have m3 : (3 : Nat) ∈ [1, 2, 3, 4, 5, 6, 7, 8, 9, 10] := by decide
  have m4 : (4 : Nat) ∈ [1, 2, 3, 4, 5, 6, 7, 8, 9, 10] := by decide
  have m5 : (5 : Nat) ∈ [1, 2, 3, 4, 5, 6, 7, 8, 9, 10] := by decide
  have m6 : (6 : Nat) ∈ [1, 2, 3, 4, 5, 6, 7, 8, 9, 10] := by decide
  have m7 : (7 : Nat) ∈ [1, 2, 3, 4, 5, 6, 7, 8, 9, 10] := by decide
  have m8 : (8 : Nat) ∈ [1, 2, 3, 4, 5, 6, 7, 8, 9, 10] := by decide
  have m9 : (9 : Nat) ∈ [1, 2, 3, 4, 5, 6, 7, 8, 9, 10] := by decide
  have m10 : (10 : Nat) ∈ [1, 2, 3, 4, 5, 6, 7, 8, 9, 10] := by decide
  obtain ⟨b, off, rfl, n0⟩ := R.cells 0 (by decide)
  rw [Nat.add_zero] at n0
  have hbn := hb _ rfl
  simp only at hbn
  have H := Lib.hid h
  have HX := Lib.hid h.inv
  have HE1 := Lib.hid (h.drewN 1).errs
  have hW := h.w8; have hn := h.n9; have hk := h.k9; have hcy := h.cy; have hcy0 := h.inv.cy
  have hml : n + 1 < maxLen := by unfold maxLen; omega
  have hmw : n + x.s.W.length < maxLen := by unfold maxLen; omega
  have hcyw : (Lit.int .i64 x.cycle).wf = true := WalkArith.wf_i64 (by omega)
  have HM := Lib.hid (And.intro hml hmw); clear hml hmw
  have p0 := h.p0
  have HS0 := Lib.hid (fun j => show (w.drewN j).cell? ⟨pb, 0, none⟩ = some (.pointer (some ⟨cb, 0, none⟩)) ∧ (w.drewN j).cell? ⟨b, off, none⟩ = some (.int .i64 (ns.getD 0 0)) from ⟨p0, n0⟩)
  have HKP := Lib.hid (fun w2 (q : Keep (K.foot cb) (w.drewN 1) w2) => show w2.cell? ⟨pb, 0, none⟩ = some (.pointer (some ⟨cb, 0, none⟩)) ∧ w2.cell? ⟨b, off, none⟩ = some (.int .i64 (ns.getD 0 0)) from ⟨by rw [q.cell (p := ⟨pb, 0, none⟩) (World.block_lt_of_cell? (w.drewN 1) _ p0) h.pf]; exact p0, by rw [q.cell (p := ⟨b, off, none⟩) (World.block_lt_of_cell? (w.drewN 1) _ n0) hbn]; exact n0⟩)
  clear h R hb hns hbn
  go_enter Tryz.func47, Tryz.ntmps47
  go_wp2_with fail
  go_region_held3 (fun w' => w'.cell? ⟨pb, 0, none⟩ = some (.pointer (some ⟨cb, 0, none⟩)) ∧ w'.cell? ⟨b, off, none⟩ = some (.int .i64 (ns.getD 0 0))) (first | exact HSA.out | exact HS0.out _)
    ((go_at_call 48; refine (chain_Free A [1, 2, 3, 4, 5, 6, 7, 8, 9, 10] _ (K.foot cb) cb K n sd x _ (ns.getD 0 0) (H.out.drewN 1).cn.go HX.out HE1.out.1 HE1.out.2 m2 m4 m6 hW HM.out.2).mono ?_; rintro y w2 ⟨rfl, K2, g⟩; have H1 := Lib.hid g; have HSA := Lib.hid (HKP.out _ g.keep)))
  all_goals
    go_wp2_with fail
    go_ret2
    exact ⟨rfl, H.out.left ((Below.refl _ _).drewN 1) H1.out (by omega)⟩

set_option maxRecDepth 8000 in
set_option maxHeartbeats 1000000 in
theorem scr_cmd6 (A : Nat → Addr) (W : World) (cb : Nat) (K : ChL) (n sd : Nat) (x : CS) (pb : Nat) (w : World) (ao : Option Addr) (cap : Nat) (ns : List Int) (h : CmdIn A W cb K n sd x pb w) (R : RdI .i64 w ao 1 cap ns) (hb : ∀ a, ao = some a → ¬ K.foot cb a.block) (hns : ∀ v ∈ ns, 0 ≤ v ∧ v ≤ 9999999) :
    Calls Tryz.prog 49 #[.pointer (some ⟨pb, 0, none⟩), .slice ao 1 cap] w fun e w' => e = .returned (.tuple #[.int .i64 (x.turnV sd (ns.getD 0 0)), ev A (x.cmdOp sd 6 ns).2.1]) ∧ Left w (K.foot cb) cb sd (n + 6 + x.s.W.length) (x.cmdOp sd 6 ns).2.2 w' := by
  have m2 : (2 : Nat) ∈ [1, 2, 3, 4, 5, 6, 7, 8, 9, 10] := by decide
  have m3 : (3 : Nat) ∈ [1, 2, 3, 4, 5, 6, 7, 8, 9, 10] := by decide
  have m4 : (4 : Nat) ∈ [1, 2, 3, 4, 5, 6, 7, 8, 9, 10] := by decide
  have m5 : (5 : Nat) ∈ [1, 2, 3, 4, 5, 6, 7, 8, 9, 10] := by decide
  have m6 : (6 : Nat) ∈ [1, 2, 3, 4, 5, 6, 7, 8, 9, 10] := by decide
  have m7 : (7 : Nat) ∈ [1, 2, 3, 4, 5, 6, 7, 8, 9, 10] := by decide
  have m8 : (8 : Nat) ∈ [1, 2, 3, 4, 5, 6, 7, 8, 9, 10] := by decide
  have m9 : (9 : Nat) ∈ [1, 2, 3, 4, 5, 6, 7, 8, 9, 10] := by decide
  have m10 : (10 : Nat) ∈ [1, 2, 3, 4, 5, 6, 7, 8, 9, 10] := by decide
  obtain ⟨b, off, rfl, n0⟩ := R.cells 0 (by decide)
  rw [Nat.add_zero] at n0
  have H := Lib.hid h
  have p0 := h.p0
  have HT := Lib.hid (chain_Turn A [1, 2, 3, 4, 5, 6, 7, 8, 9, 10] _ (K.foot cb) cb K n sd x (ns.getD 0 0) _ (h.drewN 1).cn.go h.inv h.sd (h.drewN 1).errs.1 (h.drewN 1).errs.2 m2 m3 m4)
  have HS0 := Lib.hid (fun j => show (w.drewN j).cell? ⟨pb, 0, none⟩ = some (.pointer (some ⟨cb, 0, none⟩)) ∧ (w.drewN j).cell? ⟨b, off, none⟩ = some (.int .i64 (ns.getD 0 0)) from ⟨p0, n0⟩)
  have HKP := Lib.hid (fun w2 (q : Below (w.drewN 1).heap.size (w.drewN 1) w2) => show w2.cell? ⟨pb, 0, none⟩ = some (.pointer (some ⟨cb, 0, none⟩)) ∧ w2.cell? ⟨b, off, none⟩ = some (.int .i64 (ns.getD 0 0)) from ⟨by rw [q.cell (p := ⟨pb, 0, none⟩) (World.block_lt_of_cell? (w.drewN 1) _ p0)]; exact p0, by rw [q.cell (p := ⟨b, off, none⟩) (World.block_lt_of_cell? (w.drewN 1) _ n0)]; exact n0⟩)
  clear h R hb hns
  go_enter Tryz.func49, Tryz.ntmps49
  go_wp2_with fail
  go_region_held3 (fun w' => w'.cell? ⟨pb, 0, none⟩ = some (.pointer (some ⟨cb, 0, none⟩)) ∧ w'.cell? ⟨b, off, none⟩ = some (.int .i64 (ns.getD 0 0))) (first | exact HSA.out | exact HS0.out _)
    ((go_at_call 50; refine HT.out.mono ?_; rintro y w2 ⟨rfl, g⟩; have H1 := Lib.hid g; have HSA := Lib.hid (HKP.out _ g)))
  all_goals
    go_wp2_with fail
    go_ret2
    exact ⟨rfl, H.out.same (((Below.refl _ _).drewN 1).trans (H1.out.mono (Nat.le_refl _))) (by omega)⟩

set_option maxRecDepth 8000 in
set_option maxHeartbeats 1000000 in
theorem scr_cmd8 (A : Nat → Addr) (W : World) (cb : Nat) (K : ChL) (n sd : Nat) (x : CS) (pb : Nat) (w : World) (ao : Option Addr) (cap : Nat) (ns : List Int) (h : CmdIn A W cb K n sd x pb w) (R : RdI .i64 w ao 1 cap ns) (hb : ∀ a, ao = some a → ¬ K.foot cb a.block) (hns : ∀ v ∈ ns, 0 ≤ v ∧ v ≤ 9999999) :
    Calls Tryz.prog 55 #[.pointer (some ⟨pb, 0, none⟩), .slice ao 1 cap] w fun e w' => e = .returned (.int .i64 (if ownB (ns.getD 0 0) then x.p.at (ns.getD 0 0) else 0)) ∧ Left w (K.foot cb) cb sd (n + 6 + x.s.W.length) (x.cmdOp sd 8 ns).2.2 w' := by
  obtain ⟨b, off, rfl, n0⟩ := R.cells 0 (by decide)
  rw [Nat.add_zero] at n0
  have m2 : (2 : Nat) ∈ [1, 2, 3, 4, 5, 6, 7, 8, 9, 10] := by decide
  have H := Lib.hid h
  have p0 := h.p0
  have c0 := h.cn.go.c0
  have hcy := h.cy; have hcy0 := h.inv.cy
  have hcyw : (Lit.int .i64 x.cycle).wf = true := WalkArith.wf_i64 (by omega)
  have hmem : ∀ i, i < 1 → 0 ≤ ns.getD i 0 ∧ ns.getD i 0 ≤ 9999999 := fun i hi => hns _ (getD_mem ns i 0 (by rw [R.size]; exact hi))
  have hw0 : (Lit.int .i64 (ns.getD 0 0)).wf = true := WalkArith.wf_i64 (by have := hmem 0 (by decide); omega)
  clear hmem
  have QHas := Lib.hid (fun j => purse_Has K.pb x.p (ns.getD 0 0) _ (h.drewN j).cn.ch.purse)
  generalize (if ownB (ns.getD 0 0) = true then x.p.at (ns.getD 0 0) else 0) = vv at *
  clear h R hb hns
  go_enter Tryz.func55, Tryz.ntmps55
  go_wp2_with fail
  go_quiet ((first | (go_at_call 56; exact Calls.quiet_of_same ((QHas.out _).mono fun _ _ ⟨a, b⟩ => ⟨a, b.symm⟩))))
  go_wp2_with fail
  go_ret
  exact ⟨rfl, H.out.same ((Below.refl _ _).drewN _) (by omega)⟩

set_option maxRecDepth 8000 in
set_option maxHeartbeats 1000000 in
theorem scr_cmd9 (A : Nat → Addr) (W : World) (cb : Nat) (K : ChL) (n sd : Nat) (x : CS) (pb : Nat) (w : World) (ao : Option Addr) (cap : Nat) (ns : List Int) (h : CmdIn A W cb K n sd x pb w) (R : RdI .i64 w ao 1 cap ns) (hb : ∀ a, ao = some a → ¬ K.foot cb a.block) (hns : ∀ v ∈ ns, 0 ≤ v ∧ v ≤ 9999999) :
    Calls Tryz.prog 57 #[.pointer (some ⟨pb, 0, none⟩), .slice ao 1 cap] w fun e w' => e = .returned (.int .i64 (x.s.staked (ns.getD 0 0))) ∧ Left w (K.foot cb) cb sd (n + 6 + x.s.W.length) (x.cmdOp sd 9 ns).2.2 w' := by
  obtain ⟨b, off, rfl, n0⟩ := R.cells 0 (by decide)
  rw [Nat.add_zero] at n0
  have m2 : (2 : Nat) ∈ [1, 2, 3, 4, 5, 6, 7, 8, 9, 10] := by decide
  have H := Lib.hid h
  have p0 := h.p0
  have c0 := h.cn.go.c0
  have hcy := h.cy; have hcy0 := h.inv.cy
  have hcyw : (Lit.int .i64 x.cycle).wf = true := WalkArith.wf_i64 (by omega)
  have hmem : ∀ i, i < 1 → 0 ≤ ns.getD i 0 ∧ ns.getD i 0 ≤ 9999999 := fun i hi => hns _ (getD_mem ns i 0 (by rw [R.size]; exact hi))
  have hw0 : (Lit.int .i64 (ns.getD 0 0)).wf = true := WalkArith.wf_i64 (by have := hmem 0 (by decide); omega)
  clear hmem
  have QStakes := Lib.hid (fun j => chain_Stakes (h.drewN j).cn.go)
  have QStaked := Lib.hid (fun j => st_Staked (ns.getD 0 0) (h.drewN j).cn.ch.st)
  clear h R hb hns
  go_enter Tryz.func57, Tryz.ntmps57
  go_wp2_with fail
  go_quiet ((first | (go_at_call 58; exact Calls.quiet_of_same ((QStakes.out _).mono fun _ _ ⟨a, b⟩ => ⟨a, b.symm⟩)) | (go_at_call 34; exact Calls.quiet_of_same ((QStaked.out _).mono fun _ _ ⟨a, b⟩ => ⟨a, b.symm⟩))))
  go_wp2_with fail
  go_ret
  exact ⟨rfl, H.out.same ((Below.refl _ _).drewN _) (by omega)⟩

set_option maxRecDepth 8000 in
set_option maxHeartbeats 1000000 in
theorem scr_cmd10 (A : Nat → Addr) (W : World) (cb : Nat) (K : ChL) (n sd : Nat) (x : CS) (pb : Nat) (w : World) (ao : Option Addr) (cap : Nat) (ns : List Int) (h : CmdIn A W cb K n sd x pb w) (R : RdI .i64 w ao 2 cap ns) (hb : ∀ a, ao = some a → ¬ K.foot cb a.block) (hns : ∀ v ∈ ns, 0 ≤ v ∧ v ≤ 9999999) :
    Calls Tryz.prog 59 #[.pointer (some ⟨pb, 0, none⟩), .slice ao 2 cap] w fun e w' => e = .returned (.int .i64 (x.s.value (ns.getD 0 0) (ns.getD 1 0))) ∧ Left w (K.foot cb) cb sd (n + 6 + x.s.W.length) (x.cmdOp sd 10 ns).2.2 w' := by
  obtain ⟨b, off, rfl, n0⟩ := R.cells 0 (by decide)
  rw [Nat.add_zero] at n0
  obtain ⟨_, _, e1, n1⟩ := R.cells 1 (by decide)
  cases e1
  have m2 : (2 : Nat) ∈ [1, 2, 3, 4, 5, 6, 7, 8, 9, 10] := by decide
  have H := Lib.hid h
  have p0 := h.p0
  have c0 := h.cn.go.c0
  have hcy := h.cy; have hcy0 := h.inv.cy
  have hcyw : (Lit.int .i64 x.cycle).wf = true := WalkArith.wf_i64 (by omega)
  have hmem : ∀ i, i < 2 → 0 ≤ ns.getD i 0 ∧ ns.getD i 0 ≤ 9999999 := fun i hi => hns _ (getD_mem ns i 0 (by rw [R.size]; exact hi))
  have hw0 : (Lit.int .i64 (ns.getD 0 0)).wf = true := WalkArith.wf_i64 (by have := hmem 0 (by decide); omega)
  clear hmem
  have QStakes := Lib.hid (fun j => chain_Stakes (h.drewN j).cn.go)
  have QValue := Lib.hid (fun j => st_Value A [1, 2, 3, 4, 5, 6, 7, 8, 9, 10] (ns.getD 0 0) (ns.getD 1 0) (h.drewN j).cn.ch.st (h.drewN j).errs.1 m2 hw0)
  clear h R hb hns
  go_enter Tryz.func59, Tryz.ntmps59
  go_wp2_with fail
  go_quiet ((first | (go_at_call 58; exact Calls.quiet_of_same ((QStakes.out _).mono fun _ _ ⟨a, b⟩ => ⟨a, b.symm⟩)) | (go_at_call 60; exact Calls.quiet_of ((QValue.out _).mono fun _ _ ⟨a, m, b⟩ => ⟨a, m, b.symm⟩))))
  go_wp2_with fail
  go_ret
  exact ⟨rfl, H.out.same ((Below.refl _ _).drewN _) (by omega)⟩

set_option maxRecDepth 8000 in
set_option maxHeartbeats 1000000 in
theorem scr_cmd11 (A : Nat → Addr) (W : World) (cb : Nat) (K : ChL) (n sd : Nat) (x : CS) (pb : Nat) (w : World) (ao : Option Addr) (cap : Nat) (ns : List Int) (h : CmdIn A W cb K n sd x pb w) (R : RdI .i64 w ao 3 cap ns) (hb : ∀ a, ao = some a → ¬ K.foot cb a.block) (hns : ∀ v ∈ ns, 0 ≤ v ∧ v ≤ 9999999) :
    Calls Tryz.prog 61 #[.pointer (some ⟨pb, 0, none⟩), .slice ao 3 cap] w fun e w' => e = .returned (.int .i64 (x.s.waits (ns.getD 0 0) (ns.getD 1 0) (ns.getD 2 0))) ∧ Left w (K.foot cb) cb sd (n + 6 + x.s.W.length) (x.cmdOp sd 11 ns).2.2 w' := by
  obtain ⟨b, off, rfl, n0⟩ := R.cells 0 (by decide)
  rw [Nat.add_zero] at n0
  obtain ⟨_, _, e1, n1⟩ := R.cells 1 (by decide)
  cases e1
  obtain ⟨_, _, e2, n2⟩ := R.cells 2 (by decide)
  cases e2
  have m2 : (2 : Nat) ∈ [1, 2, 3, 4, 5, 6, 7, 8, 9, 10] := by decide
  have H := Lib.hid h
  have p0 := h.p0
  have c0 := h.cn.go.c0
  have hcy := h.cy; have hcy0 := h.inv.cy
  have hcyw : (Lit.int .i64 x.cycle).wf = true := WalkArith.wf_i64 (by omega)
  have hmem : ∀ i, i < 3 → 0 ≤ ns.getD i 0 ∧ ns.getD i 0 ≤ 9999999 := fun i hi => hns _ (getD_mem ns i 0 (by rw [R.size]; exact hi))
  have hw0 : (Lit.int .i64 (ns.getD 0 0)).wf = true := WalkArith.wf_i64 (by have := hmem 0 (by decide); omega)
  have hw2 : (Lit.int .i64 (ns.getD 2 0)).wf = true := WalkArith.wf_i64 (by have := hmem 2 (by decide); omega)
  clear hmem
  have QStakes := Lib.hid (fun j => chain_Stakes (h.drewN j).cn.go)
  have QWaits := Lib.hid (fun j => st_Waits A [1, 2, 3, 4, 5, 6, 7, 8, 9, 10] (ns.getD 0 0) (ns.getD 1 0) (ns.getD 2 0) (h.drewN j).cn.ch.st (h.drewN j).errs.1 m2 hw0 hw2)
  clear h R hb hns
  go_enter Tryz.func61, Tryz.ntmps61
  go_wp2_with fail
  go_quiet ((first | (go_at_call 58; exact Calls.quiet_of_same ((QStakes.out _).mono fun _ _ ⟨a, b⟩ => ⟨a, b.symm⟩)) | (go_at_call 62; exact Calls.quiet_of ((QWaits.out _).mono fun _ _ ⟨a, m, b⟩ => ⟨a, m, b.symm⟩))))
  go_wp2_with fail
  go_ret
  exact ⟨rfl, H.out.same ((Below.refl _ _).drewN _) (by omega)⟩

set_option maxRecDepth 8000 in
set_option maxHeartbeats 1000000 in
theorem scr_cmd12 (A : Nat → Addr) (W : World) (cb : Nat) (K : ChL) (n sd : Nat) (x : CS) (pb : Nat) (w : World) (ao : Option Addr) (cap : Nat) (ns : List Int) (h : CmdIn A W cb K n sd x pb w) (R : RdI .i64 w ao 0 cap ns) (hb : ∀ a, ao = some a → ¬ K.foot cb a.block) (hns : ∀ v ∈ ns, 0 ≤ v ∧ v ≤ 9999999) :
    Calls Tryz.prog 63 #[.pointer (some ⟨pb, 0, none⟩), .slice ao 0 cap] w fun e w' => e = .returned (.int .i64 (x.p.supply)) ∧ Left w (K.foot cb) cb sd (n + 6 + x.s.W.length) (x.cmdOp sd 12 ns).2.2 w' := by
  have m2 : (2 : Nat) ∈ [1, 2, 3, 4, 5, 6, 7, 8, 9, 10] := by decide
  have H := Lib.hid h
  have p0 := h.p0
  have c0 := h.cn.go.c0
  have hcy := h.cy; have hcy0 := h.inv.cy
  have hcyw : (Lit.int .i64 x.cycle).wf = true := WalkArith.wf_i64 (by omega)
  have QSupply := Lib.hid (fun (_ : Nat) => purse_Supply K.pb x.p _ (h.next (show Below w.heap.size w w from Below.refl _ _)).cn.ch.purse)
  clear h R hb hns
  go_enter Tryz.func63, Tryz.ntmps63
  go_wp2_with fail
  refine (QSupply.out 0).mono ?_
  rintro y w2 ⟨rfl, rfl⟩
  go_wp2_with fail
  go_ret
  exact ⟨rfl, H.out.same (Below.refl _ _) (by omega)⟩

set_option maxRecDepth 8000 in
set_option maxHeartbeats 1000000 in
theorem scr_cmd13 (A : Nat → Addr) (W : World) (cb : Nat) (K : ChL) (n sd : Nat) (x : CS) (pb : Nat) (w : World) (ao : Option Addr) (cap : Nat) (ns : List Int) (h : CmdIn A W cb K n sd x pb w) (R : RdI .i64 w ao 0 cap ns) (hb : ∀ a, ao = some a → ¬ K.foot cb a.block) (hns : ∀ v ∈ ns, 0 ≤ v ∧ v ≤ 9999999) :
    Calls Tryz.prog 65 #[.pointer (some ⟨pb, 0, none⟩), .slice ao 0 cap] w fun e w' => e = .returned (.int .i64 (x.bonus)) ∧ Left w (K.foot cb) cb sd (n + 6 + x.s.W.length) (x.cmdOp sd 13 ns).2.2 w' := by
  have m2 : (2 : Nat) ∈ [1, 2, 3, 4, 5, 6, 7, 8, 9, 10] := by decide
  have H := Lib.hid h
  have p0 := h.p0
  have c0 := h.cn.go.c0
  have hcy := h.cy; have hcy0 := h.inv.cy
  have hcyw : (Lit.int .i64 x.cycle).wf = true := WalkArith.wf_i64 (by omega)
  have QBonus := Lib.hid (fun (_ : Nat) => chain_Bonus _ _ _ _ _ _ _ _ (h.next (show Below w.heap.size w w from Below.refl _ _)).cn.go)
  clear h R hb hns
  go_enter Tryz.func65, Tryz.ntmps65
  go_wp2_with fail
  refine (QBonus.out 0).mono ?_
  rintro y w2 ⟨rfl, rfl⟩
  go_wp2_with fail
  go_ret
  exact ⟨rfl, H.out.same (Below.refl _ _) (by omega)⟩
end Go.Proofs.YtajnfkmkombajabGreatDoor
