/-
  The walk of plays: a block by its turn; one number.
  The walk of a script: its answers; sums.
  Contract of the document's SameInts, at the same numbers.
  The walk of a chain's sums; the closed fact of the laws of plays.
  The closed fact of the laws of plays; sums held against sums.
  A row that says 'leaving', of a function that starts nothing itself; its tied card.
-/
import Derived.Test.YtajnfkmkombajacGreatDoorQPA24
import Derived.Test.YtajnfkmkombajacGreatDoorQPA18
import Derived.Deep.AppendLies
import Derived.Deep.LoopGhost
import Derived.Test.YtajnfkmkombajacGreatDoorProg
import Derived.Test.YtajnfkmkombajacGreatDoorQPA01
import Derived.Deep.QuietTactic
import Derived.BigQuiet
import Derived.Deep.RegionWith
import Derived.Deep.DeepCutAuto
import Derived.Deep.CutBlock
import Derived.Laws.Rows
import Derived.Laws.StructEq
import Derived.Conc.Holds
import Derived.Leaving
import Derived.SevenTiedAt
set_option linter.unusedVariables false
set_option linter.unusedSimpArgs false
set_option linter.unusedVariables false
namespace Go.Proofs.YtajnfkmkombajacGreatDoor
open Go.RowKit Go.Maps

section
variable (A : Nat → Addr) (S : List Nat) (W : World) (F : Nat → Prop) (cb : Nat) (K : ChL) (n sd : Nat) (x : CS) (w : World)
set_option maxRecDepth 8000 in
theorem play_Bake (r : Int) (h : ChGo W F cb K n sd x w) (hx : x.Inv) (hs : sd < 18446744073709551616) (hE : Errs A S W) (hFE : ∀ c ∈ S, ¬ F (gE c)) (h2 : 2 ∈ S) (h3 : 3 ∈ S) (h4 : 4 ∈ S) (h6 : 6 ∈ S) (h9 : 9 ∈ S) (hW : x.s.W.length ≤ 8000) (hn : n + 1 ≤ 1000000) (hk : x.k.L.length ≤ 1000000) :
    Calls Tryz.prog 179 #[.pointer (some ⟨cb, 0, none⟩), .int .i64 r] w fun e w' => e = .returned (.tuple #[.int .i64 (x.btV sd r), .int .i64 (x.btN sd r), ev A (x.turnC r)]) ∧ ∃ K', ChGo W F cb K' (n + 1) sd (x.btS sd r) w' := by
  have H0 := Lib.hid h
  have HT := Lib.hid (chain_Turn A S W F cb K n sd x r w h hx hs hE hFE h2 h3 h4)
  have HB := Lib.hid (fun wx (hg : ChGo W F cb K n sd x wx) => chain_Bake A S W F cb K n sd x wx (x.turnV sd r) r hg hx hs hE hFE h2 h3 h4 h6 h9 hW hn hk)
  clear h hx hE hFE
  by_cases hc : x.turnC r = 0
  · have E1 := Lib.hid (show x.btV sd r = x.turnV sd r from if_pos hc)
    have E2 := Lib.hid (show x.btN sd r = (x.reward (x.turnV sd r)).1 from if_pos hc)
    have E3 := Lib.hid (show x.btS sd r = (x.reward (x.turnV sd r)).2.stepOp from if_pos hc)
    have E4 := Lib.hid (show x.bakeOp sd (x.turnV sd r) r = ((x.reward (x.turnV sd r)).1, 0, (x.reward (x.turnV sd r)).2.stepOp) by unfold CS.bakeOp; rw [if_neg (by simp [hc]), if_neg (by simp)])
    rw [E4.out] at HB
    simp only [ev_nil] at HB
    have HC := Lib.hid (show ev A (x.turnC r) = .nilIface by rw [hc]; rfl)
    rw [HC.out] at HT
    clear hc E4
    go_enter Tryz.func179, Tryz.ntmps179
    go_wp2_with fail
    refine HT.out.mono ?_
    rintro e w1 ⟨rfl, b1⟩
    have H1 := Lib.hid (H0.out.below b1); clear b1
    go_wp2_with fail
    refine (HB.out _ H1.out).mono ?_
    rintro e w2 ⟨rfl, K2, g2⟩
    have H2 := Lib.hid g2; clear g2
    go_wp2_with fail
    go_ret3
    exact ⟨by rw [E1.out, E2.out, HC.out]; rfl, by rw [E3.out]; exact ⟨K2, H2.out⟩⟩
  · have E1 := Lib.hid (show x.btV sd r = 0 from if_neg hc)
    have E2 := Lib.hid (show x.btN sd r = 0 from if_neg hc)
    have E3 := Lib.hid (show x.btS sd r = x from if_neg hc)
    have HC := Lib.hid (ev_some A hc)
    rw [HC.out] at HT
    clear hc
    go_enter Tryz.func179, Tryz.ntmps179
    go_wp2_with fail
    refine HT.out.mono ?_
    rintro e w1 ⟨rfl, b1⟩
    have H1 := Lib.hid (H0.out.below b1); clear b1
    go_wp2_with fail
    go_ret3
    exact ⟨by rw [E1.out, E2.out, HC.out]; rfl, by rw [E3.out]; exact ⟨K, H1.out.mono (Nat.le_succ n)⟩⟩

theorem CS.oneOp_parts (x : CS) (sd : Nat) {v q o b N k4 nn r : Int} (h1 : v / 8 = q) (h2 : q % 6 = o) (h3 : q / 6 % 3 = b) (h4 : 1 + q / 18 % 2000 = N) (h5 : q / 18 % 4 = k4) (h6 : q / 72 % 5 = nn) (h7 : q % 8 = r) :
    (v % 8 = 0 → x.oneOp sd v = ((x.p.moveOp o b N).1, { x with p := (x.p.moveOp o b N).2 })) ∧ (v % 8 = 1 → x.oneOp sd v = x.stakeOp o b N) ∧
    (v % 8 = 2 → x.oneOp sd v = ((x.s.leaveOp o b N x.cycle).1, { x with s := (x.s.leaveOp o b N x.cycle).2 })) ∧ (v % 8 = 3 → x.oneOp sd v = ((x.freeOp o).2.1, (x.freeOp o).2.2)) ∧
    (v % 8 = 4 → x.oneOp sd v = ((x.k.accuse o ⟨b, x.cycle - k4, nn⟩ x.cycle).1, { x with k := (x.k.accuse o ⟨b, x.cycle - k4, nn⟩ x.cycle).2 })) ∧
    (5 ≤ v % 8 → x.oneOp sd v = (x.turnC r, x.btS sd r)) := by
  subst h1; subst h2; subst h3; subst h4; subst h5; subst h6; subst h7
  unfold CS.oneOp
  refine ⟨fun h => by rw [if_pos h], fun h => by rw [if_neg (by omega), if_pos h], fun h => by rw [if_neg (by omega), if_neg (by omega), if_pos h], fun h => by rw [if_neg (by omega), if_neg (by omega), if_neg (by omega), if_pos h], fun h => by rw [if_neg (by omega), if_neg (by omega), if_neg (by omega), if_neg (by omega), if_pos h], fun h => by rw [if_neg (by omega), if_neg (by omega), if_neg (by omega), if_neg (by omega), if_neg (by omega)]⟩

/-- what the code reckons of a number -/
structure OneN (v q o b q6 k kk N m k4 q72 nn r : Int) : Prop where
  q1 : v.tdiv 8 = q
  q2 : v / 8 = q
  o1 : q.tmod 6 = o
  o2 : q % 6 = o
  a1 : q.tdiv 6 = q6
  a2 : q / 6 = q6
  b1 : q6.tmod 3 = b
  b2 : q6 % 3 = b
  k1 : q.tdiv 18 = k
  k2 : q / 18 = k
  c1 : k.tmod 2000 = kk
  c2 : k % 2000 = kk
  n1 : 1 + kk = N
  m1 : v.tmod 8 = m
  m2 : v % 8 = m
  d1 : k.tmod 4 = k4
  d2 : k % 4 = k4
  e1 : q.tdiv 72 = q72
  e2 : q / 72 = q72
  f1 : q72.tmod 5 = nn
  f2 : q72 % 5 = nn
  r1 : q.tmod 8 = r
  r2 : q % 8 = r
  bd : 0 ≤ q ∧ 0 ≤ kk ∧ kk < 2000 ∧ 0 ≤ k4 ∧ k4 < 4 ∧ 0 ≤ nn ∧ nn < 5 ∧ 0 ≤ b ∧ b < 3 ∧ 0 ≤ m ∧ m < 8
theorem OneN.of {v : Int} (h : 0 ≤ v) : OneN v (v / 8) (v / 8 % 6) (v / 8 / 6 % 3) (v / 8 / 6) (v / 8 / 18) (v / 8 / 18 % 2000) (1 + v / 8 / 18 % 2000) (v % 8) (v / 8 / 18 % 4) (v / 8 / 72) (v / 8 / 72 % 5) (v / 8 % 8) := by
  have hq : 0 ≤ v / 8 := by omega
  exact ⟨Int.tdiv_eq_ediv_of_nonneg h, rfl, Int.tmod_eq_emod_of_nonneg hq, rfl, Int.tdiv_eq_ediv_of_nonneg hq, rfl, Int.tmod_eq_emod_of_nonneg (by omega), rfl, Int.tdiv_eq_ediv_of_nonneg hq, rfl, Int.tmod_eq_emod_of_nonneg (by omega), rfl, rfl,
    Int.tmod_eq_emod_of_nonneg h, rfl, Int.tmod_eq_emod_of_nonneg (by omega), rfl, Int.tdiv_eq_ediv_of_nonneg hq, rfl, Int.tmod_eq_emod_of_nonneg (by omega), rfl, Int.tmod_eq_emod_of_nonneg hq, rfl, by omega⟩

set_option maxRecDepth 8000 in
set_option maxHeartbeats 2000000 in
theorem play_one (v : Int) (v0 : 0 ≤ v) (v1 : v ≤ 9223372036854775807) (h : ChGo W F cb K n sd x w) (hx : x.Inv) (hs : sd < 18446744073709551616) (hE : Errs A S W) (hFE : ∀ c ∈ S, ¬ F (gE c)) (hS : ∀ c ∈ [2, 3, 4, 5, 6, 7, 8, 9, 10], c ∈ S) (hW : x.s.W.length ≤ 8000) (hn : n ≤ 900000) (hk : x.k.L.length ≤ 900000) (hcy : x.cycle ≤ 1000000) :
    Calls Tryz.prog 114 #[.pointer (some ⟨cb, 0, none⟩), .int .i64 v] w fun e w' => e = .returned (ev A (x.oneOp sd v).1) ∧ ∃ K' n', n' ≤ n + 2 + x.s.W.length ∧ ChGo W F cb K' n' sd (x.oneOp sd v).2 w' := by
  have m2 := hS 2 (by decide); have m3 := hS 3 (by decide); have m4 := hS 4 (by decide); have m5 := hS 5 (by decide); have m6 := hS 6 (by decide); have m7 := hS 7 (by decide); have m8 := hS 8 (by decide); have m9 := hS 9 (by decide); have m10 := hS 10 (by decide)
  have hN := OneN.of v0
  obtain ⟨E0, E1, E2, E3, E4, E5⟩ := CS.oneOp_parts x sd (v := v) rfl rfl rfl rfl rfl rfl rfl
  generalize v / 8 / 72 % 5 = nn at *
  generalize v / 8 / 72 = q72 at *
  generalize v / 8 / 18 % 4 = k4 at *
  generalize 1 + v / 8 / 18 % 2000 = N at *
  generalize v / 8 / 18 % 2000 = kk at *
  generalize v / 8 / 18 = k at *
  generalize v / 8 / 6 % 3 = b at *
  generalize v / 8 / 6 = q6 at *
  generalize v / 8 % 6 = o at *
  generalize v / 8 % 8 = r at *
  generalize v / 8 = q at *
  generalize v % 8 = m at *
  have hcy0 := hx.cy
  have hcyw : (Lit.int .i64 x.cycle).wf = true := WalkArith.wf_i64 (by omega)
  have H0 := Lib.hid h
  have HX := Lib.hid hx
  have HEE := Lib.hid (And.intro hE hFE)
  obtain ⟨q1, q2, o1, o2, a1, a2, b1, b2, k1, k2, c1, c2, n1, mm1, mm2, d1, d2, e1, e2, f1, f2, r1, r2, bd⟩ := hN
  obtain ⟨bq, bk0, bk1, b40, b41, bn0, bn1, bb0, bb1, bm0, bm1⟩ := bd
  clear h hx hE hFE hS
  have hm : m = 0 ∨ m = 1 ∨ m = 2 ∨ m = 3 ∨ m = 4 ∨ 5 ≤ m := by omega
  rcases hm with hm | hm | hm | hm | hm | hm
  · have E := Lib.hid (E0 hm)
    subst hm
    clear E0 E1 E2 E3 E4 E5
    go_enter Tryz.func114, Tryz.ntmps114
    go_wp2_with fail
    refine (chain_Pay A S W F cb K n sd x _ o b N H0.out HEE.out.1 HEE.out.2 m2 m6).mono ?_
    rintro y w2 ⟨rfl, g⟩
    have H1 := Lib.hid g; clear g
    go_wp2_with fail
    go_ret
    exact ⟨by rw [E.out]; rfl, by rw [E.out]; exact ⟨K, n, by omega, H1.out⟩⟩
  · have E := Lib.hid (E1 hm)
    subst hm
    clear E0 E1 E2 E3 E4 E5
    go_enter Tryz.func114, Tryz.ntmps114
    go_wp2_with fail
    refine (chain_Stake A S W F cb K n sd x _ o b N H0.out HEE.out.1 HEE.out.2 m2 m4 m6 m7 m8 (by unfold maxLen; omega)).mono ?_
    rintro y w2 ⟨rfl, K2, g⟩
    have H1 := Lib.hid g; clear g
    go_wp2_with fail
    go_ret
    exact ⟨by rw [E.out]; rfl, by rw [E.out]; exact ⟨K2, n + 1, by omega, H1.out⟩⟩
  · have E := Lib.hid (E2 hm)
    subst hm
    clear E0 E1 E2 E3 E4 E5
    go_enter Tryz.func114, Tryz.ntmps114
    go_wp2_with fail
    refine (chain_Unstake A S W F cb K n sd x _ o b N H0.out HEE.out.1 HEE.out.2 m2 m4 m6 m7 m8 (by unfold maxLen; omega) hcyw).mono ?_
    rintro y w2 ⟨rfl, K2, g⟩
    have H1 := Lib.hid g; clear g
    go_wp2_with fail
    go_ret
    exact ⟨by rw [E.out]; rfl, by rw [E.out]; exact ⟨K2, n + 2, by omega, H1.out⟩⟩
  · have E := Lib.hid (E3 hm)
    subst hm
    clear E0 E1 E2 E3 E4 E5
    go_enter Tryz.func114, Tryz.ntmps114
    go_wp2_with fail
    refine (chain_Free A S W F cb K n sd x _ o H0.out HX.out HEE.out.1 HEE.out.2 m2 m4 m6 hW (by unfold maxLen; omega)).mono ?_
    rintro y w2 ⟨rfl, K2, g⟩
    have H1 := Lib.hid g; clear g
    go_wp2_with fail
    go_ret
    exact ⟨by rw [E.out]; rfl, by rw [E.out]; exact ⟨K2, _, by omega, H1.out⟩⟩
  · have E := Lib.hid (E4 hm)
    subst hm
    clear E0 E1 E2 E3 E4 E5
    have hew : (EV.mk b (x.cycle - k4) nn).wf := ⟨show (Lit.int .i64 b).wf = true from WalkArith.wf_i64 (by omega), show (Lit.int .i64 (x.cycle - k4)).wf = true from WalkArith.wf_i64 (by omega), show (Lit.int .i64 nn).wf = true from WalkArith.wf_i64 (by omega)⟩
    go_enter Tryz.func114, Tryz.ntmps114
    go_wp2_with fail
    refine (chain_Cycle H0.out).mono ?_
    rintro y w2 ⟨rfl, rfl⟩
    go_wp2_with fail
    refine (chain_Accuse A S W F cb K n sd x _ o ⟨b, x.cycle - k4, nn⟩ H0.out HEE.out.1 HEE.out.2 m2 m5 m10 hew (by omega) (by omega)).mono ?_
    rintro y w2 ⟨rfl, K2, g⟩
    have H1 := Lib.hid g; clear g
    go_wp2_with fail
    go_ret
    exact ⟨by rw [E.out]; rfl, by rw [E.out]; exact ⟨K2, n + 1, by omega, H1.out⟩⟩
  · have E := Lib.hid (E5 hm)
    have n0 : (m == 0) = false := by simp; omega
    have n1' : (m == 1) = false := by simp; omega
    have n2 : (m == 2) = false := by simp; omega
    have n3 : (m == 3) = false := by simp; omega
    have n4 : (m == 4) = false := by simp; omega
    clear E0 E1 E2 E3 E4 E5 hm
    go_enter Tryz.func114, Tryz.ntmps114
    go_wp2_with fail
    refine (play_Bake A S W F cb K n sd x _ r H0.out HX.out hs HEE.out.1 HEE.out.2 m2 m3 m4 m6 m9 hW (by omega) (by omega)).mono ?_
    rintro y w2 ⟨rfl, K2, g⟩
    have H1 := Lib.hid g; clear g
    go_wp2_with fail
    go_ret
    exact ⟨by rw [E.out]; rfl, by rw [E.out]; exact ⟨K2, n + 1, by omega, H1.out⟩⟩
end
end Go.Proofs.YtajnfkmkombajacGreatDoor
namespace Go.Proofs.YtajnfkmkombajacGreatDoor
open Go.RowKit Go.Maps

theorem code_ev (A : Nat → Addr) (c : Nat) (hc : c ≤ 10) (w : World) (hS : Sents A w) : Calls Tryz.prog 104 #[ev A c] w (CodePost c (-1) w) := by
  by_cases h0 : c = 0
  · subst h0; exact code_nil w
  · have := code_bare A c (by omega) hc w hS
    rw [ev_some A h0]; exact this

/-- since world w0, among the blocks F: a chain that plays a script: what it has answered so far lies in out -/
structure PRun (w0 : World) (F : Nat → Prop) (cb : Nat) (K : ChL) (n sd : Nat) (x : CS) (out : Value) (ans : List Int) (ao : Option Addr) (len cap : Nat) (zs : List Int) (w : World) : Prop where
  go : ChGo w0 F cb K n sd x w
  own : w.ownsRow w0.heap.size 3 1 out ans.length (ans.map (Value.int .i64))
  sep : ∀ g, out.ownBlock = some g → ¬ K.foot cb g
  rd : RdI .i64 w ao len cap zs
  rds : ∀ a, ao = some a → a.block < w0.heap.size ∧ ¬ K.foot cb a.block
section
variable {w0 w w' : World} {F : Nat → Prop} {cb n m sd len cap : Nat} {K K' : ChL} {x y : CS} {out : Value} {ans : List Int} {ao : Option Addr} {zs : List Int}
theorem PRun.size (h : PRun w0 F cb K n sd x out ans ao len cap zs w) : w0.heap.size ≤ w.heap.size := h.go.keep.size
theorem PRun.step (h : PRun w0 F cb K n sd x out ans ao len cap zs w) (k : ChGo w (K.foot cb) cb K' m sd y w') : PRun w0 F cb K' m sd y out ans ao len cap zs w' :=
  ⟨h.go.step k.keep (fun _ hb => hb) k.ch k.foot, ownsRow_other h.own (fun g hg => k.keep.block g (h.own.lt g hg).2 (h.sep g hg)), fun g hg hf => by
    rcases k.foot g hf with e | e
    · exact h.sep g hg e
    · have := (h.own.lt g hg).2; omega,
   h.rd.keepX k.keep (fun a ha => (h.rds a ha).2), fun a ha => ⟨(h.rds a ha).1, fun hf => by
    rcases k.foot _ hf with e | e
    · exact (h.rds a ha).2 e
    · have := (h.rds a ha).1; have := h.size; omega⟩⟩
theorem PRun.next (h : PRun w0 F cb K n sd x out ans ao len cap zs w) (k : Below w.heap.size w w') : PRun w0 F cb K n sd x out ans ao len cap zs w' :=
  ⟨h.go.below k, ownsRow_other h.own (fun g hg => k.block g (h.own.lt g hg).2), h.sep, h.rd.below k, h.rds⟩
theorem PRun.append {g cp : Nat} {c : Int} {ob : Obj} {w1 : World} (h : PRun w0 F cb K n sd x out ans ao len cap zs w) (hg : (w.alloc ob).grownBy w1 out.ownBlock) (hor : out.ownBlock = some g ∨ g = w.heap.size + 1)
    (ho : w1.ownsRow w0.heap.size 3 1 (.slice (some ⟨g, 0, none⟩) (ans.length + 1) cp) (ans.length + 1) (ans.map (Value.int .i64) ++ [.int .i64 c])) :
    PRun w0 F cb K n sd x (.slice (some ⟨g, 0, none⟩) (ans.length + 1) cp) (ans ++ [c]) ao len cap zs w1 := by
  have K1 : Keep (fun b => out.ownBlock = some b) w w1 := ((Keep.refl _ _).alloc ob).grown hg (fun k hk => .inl hk)
  refine ⟨⟨h.go.keep.andThen K1 (fun b hb => .inr (h.own.lt b hb).1), h.go.ch.keep K1 (fun b hb hf => h.sep b hf hb), fun b hb => (h.go.foot b hb).imp id (fun e => ⟨e.1, Nat.lt_of_lt_of_le e.2 K1.size⟩), h.go.Flt⟩, ?_, fun g' hg' hf => ?_, h.rd.keepX K1 (fun a ha hb => ?_), h.rds⟩
  · rw [List.length_append, List.map_append]; exact ho
  · have : g' = g := by simpa [Value.ownBlock] using hg'.symm
    subst this
    rcases hor with e | e
    · exact h.sep g' e hf
    · have := h.go.ch.footlt g' hf; omega
  · have := (h.rds a ha).1; have := (h.own.lt _ hb).1; omega
end

set_option maxRecDepth 8000 in
set_option maxHeartbeats 1000000 in
theorem play_Run (A : Nat → Addr) (W : World) (cb : Nat) (K : ChL) (n sd : Nat) (x : CS) (w : World) (t : Nat) (ao : Option Addr) (cap : Nat) (zs : List Int) (h : CN W cb K n sd x w) (hq : PlayQ t x) (R : RdI .i64 w ao zs.length cap zs)
    (hwf : ∀ v ∈ zs, v ≤ 9223372036854775807) (ha : ∀ a, ao = some a → a.block < w.heap.size ∧ ¬ K.foot cb a.block) (hl : t + zs.length ≤ 600) (hn : n ≤ 3 + 700 * t) (hs : sd < 18446744073709551616) (HS : Sents A W) :
    Calls Tryz.prog 51 #[.pointer (some ⟨cb, 0, none⟩), .slice ao zs.length cap] w fun e w' => ∃ out K' n', e = .returned out ∧ PRun w (K.foot cb) cb K' n' sd (x.runS sd zs) out (x.runA sd zs) ao zs.length cap zs w' ∧ n' ≤ 3 + 700 * (t + zs.length) := by
  obtain ⟨i0, hi, hz0, hz1, hz2⟩ := info_parts Tryz.infoInt
  obtain ⟨hsl, -⟩ := RdI.hi (P := Tryz.prog) (t := 38) Tryz.underlying38 (fun wx => by kernel_rfl) R zs.length (Nat.le_refl _) .i64
  have HQ := Lib.hid (fun j (hj : j ≤ zs.length) => show PlayQ (t + j) (x.runS sd (zs.take j)) by
    have := PlayQ.run (x := x) sd (zs.take j) hq
    rw [List.length_take, Nat.min_eq_left hj] at this; exact this)
  have HST := Lib.hid (fun j v (hv : zs[j]? = some v) => show x.runS sd (zs.take (j + 1)) = ((x.runS sd (zs.take j)).playOp sd v).2 ∧ x.runA sd (zs.take (j + 1)) = x.runA sd (zs.take j) ++ [((x.runS sd (zs.take j)).playOp sd v).1] by
    rw [List.take_add_one, hv]; exact ⟨CS.runS_snoc _ _ _ _, CS.runA_snoc _ _ _ _⟩)
  have HLA := Lib.hid (fun j (hj : j ≤ zs.length) => show (x.runA sd (zs.take j)).length = j by rw [CS.runA_len, List.length_take, Nat.min_eq_left hj])
  have HP0 := Lib.hid (show PRun w (K.foot cb) cb K n sd (x.runS sd (zs.take 0)) (.slice none 0 0) (x.runA sd (zs.take 0)) ao zs.length cap zs w from ⟨h.go, World.ownsRow_nil _ _ _ _, (fun g hg => by cases hg), R, ha⟩)
  have HC0 := Lib.hid h
  have HWF := Lib.hid hwf
  have HLN := Lib.hid hn
  have hlc := R.lc
  clear h hq R ha hwf hn
  obtain ⟨len, hlen⟩ : ∃ len, zs.length = len := ⟨_, rfl⟩
  rw [hlen] at hsl HP0 HQ HLA hlc ⊢
  have HZ := Lib.hid hlen
  have hl6 : len ≤ 600 := by omega
  have d3 : decide ((3000 : Int) < (len : Int)) = false := by simp; omega
  have HLT := Lib.hid (show t + len ≤ 600 by omega)
  clear hl hlen
  go_enter Tryz.func51, Tryz.ntmps51
  go_wp2_with fail
  go_loopg [15, 5] len (fun g i out wr => ∃ (j n' : Nat) (K' : ChL), g + j = len ∧ i = .int .i64 j ∧ PRun w (K.foot cb) cb K' n' sd (x.runS sd (zs.take j)) out (x.runA sd (zs.take j)) ao len cap zs wr ∧ n' ≤ 3 + 700 * (t + j))
  case atStart => exact ⟨0, n, K, rfl, rfl, HP0.out, by simpa using HLN.out⟩
  case round =>
    clear HP0
    obtain ⟨j, n1, K1, hg, rfl, hP, hn1⟩ := hrel
    have HG := Lib.hid hg; have HP := Lib.hid hP; have HN := Lib.hid hn1; clear hg hP hn1
    by_cases hlt : j < len
    · obtain ⟨b, off, rfl, hcell⟩ := HP.out.rd.cells j hlt
      obtain ⟨v, hv⟩ : ∃ v, zs[j]? = some v := ⟨_, List.getElem?_eq_getElem (by have := HZ.out; omega)⟩
      rw [List.getD_eq_getElem?_getD, hv] at hcell
      simp only [Option.getD_some] at hcell
      have hvm := HWF.out v (List.mem_of_getElem? hv)
      have HV := Lib.hid (HST.out j v hv)
      have HQJ := Lib.hid (HQ.out j (by omega))
      have hla := HLA.out j (by omega)
      have HOK := Lib.hid (CS.play_ok HQJ.out.inv sd v)
      clear hv
      generalize x.runS sd (zs.take j) = y at *
      generalize x.runA sd (zs.take j) = ans at *
      have HA := Lib.hid hla; clear hla
      by_cases h0 : v < 0
      · have E := Lib.hid (show y.playOp sd v = (-1, y) from if_pos h0)
        rw [E.out] at HV
        go_wp2_with (at_builtin; refine wpList_append_lies _ rfl (.tmp 28) (.tmp 30) 38 rfl w.heap.size 3 i0 (.int .i64 0) 1 8 Tryz.underlying38 hi hz0 hz1 hz2 rfl (by decide) u5 ans.length (ans.map (Value.int .i64)) rfl (HP.out.own.alloc _) ⟨_, 0, none⟩ 1 1 [.int .i64 (-1)] rfl rfl (cell_one_at _ _ _ _ (by simp)) (ints_oneCell _ [_]) (by decide) (by have := HA.out; unfold maxLen; omega) (by have := HA.out; omega) (by have := HP.out.size; simp; omega) _ rfl ?_)
        intro g cp w2 ho2 hg2 hor hgl
        have HP2 := Lib.hid (HP.out.append (c := -1) hg2 (by simpa using hor) ho2)
        clear ho2 hg2 hor hgl
        go_wp2_with fail
        have hg := HG.out
        go_roundg (len - (j + 1))
        case measure => omega
        case rel => exact ⟨j + 1, n1, K1, by omega, by go_num, by rw [HV.out.1, HV.out.2]; exact HP2.out, by have := HN.out; omega⟩
      · have E := Lib.hid (show y.playOp sd v = (((y.oneOp sd v).1 : Int), (y.oneOp sd v).2) from if_neg h0)
        rw [E.out] at HV
        have d0 : decide (0 ≤ v) = true := by simp; omega
        have hcl := CS.one_le y sd v
        have hqw := HQJ.out.w; have hqk := HQJ.out.k; have hqc := HQJ.out.cy
        have hlt6 := HLT.out
        have hn1 := HN.out
        have HO := Lib.hid (play_one A [1, 2, 3, 4, 5, 6, 7, 8, 9, 10] wr (K1.foot cb) cb K1 n1 sd y wr v (by omega) hvm (HC0.out.of HP.out.go).go HQJ.out.inv hs ((HC0.out.of HP.out.go).errs HS.errs) ((HC0.out.of HP.out.go).fe HS.errs) (by decide) (by omega) (by omega) (by omega) (by omega))
        have HCL := Lib.hid hcl
        clear hqw hqk hqc hlt6 hn1 hcl h0
        generalize (y.oneOp sd v).1 = c at *
        generalize (y.oneOp sd v).2 = z at *
        go_wp2_with fail
        refine HO.out.mono ?_
        rintro e w2 ⟨rfl, K2, n2, hn2, g2⟩
        have HP2 := Lib.hid (HP.out.step g2); clear g2
        go_wp2_with fail
        refine (code_ev A c HCL.out _ (HS.below (HC0.out.of HP2.out.go).below)).mono ?_
        rintro e w3 ⟨rfl, hb3⟩
        have HP3 := Lib.hid (HP2.out.next hb3); clear hb3
        have HN2 := Lib.hid hn2; clear hn2
        go_wp2_with (at_builtin; refine wpList_append_lies _ rfl (.tmp 28) (.tmp 30) 38 rfl w.heap.size 3 i0 (.int .i64 0) 1 8 Tryz.underlying38 hi hz0 hz1 hz2 rfl (by decide) u5 ans.length (ans.map (Value.int .i64)) rfl (HP3.out.own.alloc _) ⟨_, 0, none⟩ 1 1 [.int .i64 (c : Int)] rfl rfl (cell_one_at _ _ _ _ (by simp)) (ints_oneCell _ [_]) (by decide) (by have := HA.out; unfold maxLen; omega) (by have := HA.out; omega) (by have := HP3.out.size; simp; omega) _ rfl ?_)
        intro g cp w4 ho2 hg2 hor hgl
        have HP4 := Lib.hid (HP3.out.append (c := (c : Int)) hg2 (by simpa using hor) ho2)
        clear ho2 hg2 hor hgl
        go_wp2_with fail
        have hg := HG.out
        go_roundg (len - (j + 1))
        case measure => omega
        case rel => exact ⟨j + 1, n2, K2, by omega, by go_num, by rw [HV.out.1, HV.out.2]; exact HP4.out, by have := HN.out; have := HN2.out; have := HQJ.out.w; have := HLT.out; omega⟩
    · have hjl : j = len := by have := HG.out; omega
      subst hjl
      have hz := HZ.out
      have hP := HP.out
      rw [List.take_of_length_le (by omega)] at hP
      have HF := Lib.hid hP
      clear hP hz HP
      go_wp2_with fail
      go_ret
      exact ⟨_, K1, n1, rfl, HF.out, HN.out⟩
end Go.Proofs.YtajnfkmkombajacGreatDoor
namespace Go.Proofs.YtajnfkmkombajacGreatDoor
open Go.RowKit

set_option maxHeartbeats 400000 in
theorem ref_SameInts (ax ay : Option Addr) (n cx cy : Nat) (xs : List Int) (w : World) (RX : RdI .i64 w ax n cx xs) (RY : RdI .i64 w ay n cy xs) :
    Calls Tryz.prog 28 #[.slice ax n cx, .slice ay n cy] w fun e w' => e = .returned (.bool true) ∧ Dr w w' := by
  have hm : n ≤ 9223372036854775807 := by have := RX.lc; have := RX.cm; unfold maxLen at *; omega
  have HX := Lib.hid RX; have HY := Lib.hid RY
  have hne : ((n : Int) != (n : Int)) = false := bne_self_eq_false _
  clear RX RY
  go_enter Tryz.func28, Tryz.ntmps28
  go_wp2_with fail
  go_loopw [5] (fun i wr => ∃ k : Nat, k ≤ n ∧ i = .int .i64 k ∧ Dr w wr) (fun i _ => n - (intOf i).toNat)
  case atStart => exact ⟨0, Nat.zero_le _, rfl, Dr.refl _⟩
  case round =>
    obtain ⟨k, hk, rfl, d, rfl⟩ := hrel
    by_cases hlt : k < n
    · obtain ⟨b, off, ha, hc⟩ := HX.out.cells k hlt
      obtain ⟨b', off', ha', hc'⟩ := HY.out.cells k hlt
      have Ha := Lib.hid ha; have Ha' := Lib.hid ha'
      clear ha ha'
      have h1 := Ha.out; subst h1
      have h2 := Ha'.out; subst h2
      generalize xs.getD k 0 = x at *
      have hxx : (x != x) = false := bne_self_eq_false _
      have i0 : (0 : Int) ≤ (k : Int) := by omega
      have i1 : (k : Int) < (n : Int) := by omega
      go_wp2_with fail
      go_quiet (fail)
      go_wp2_with fail
      go_roundw
      case rel => exact ⟨k + 1, by omega, by go_num, d + nq, by simp [World.drewN]⟩
      case measure => simp [intOf]; omega
    · go_wp2
      go_ret
      exact ⟨rfl, d, rfl⟩
end Go.Proofs.YtajnfkmkombajacGreatDoor
namespace Go.Proofs.YtajnfkmkombajacGreatDoor
open Go.RowKit Go.Maps

theorem balloc {a w : World} (h : Below a.heap.size a w) (ob : Obj) : Below a.heap.size a (w.alloc ob) := h.alloc h.size ob
def sumsV (a b c : Int) : Value := .agg #[.int .i64 a, .int .i64 b, .int .i64 c]
set_option maxRecDepth 8000 in
set_option maxHeartbeats 1000000 in
theorem play_Add (A : Nat → Addr) (S : List Nat) (W : World) (F : Nat → Prop) (cb : Nat) (K : ChL) (n sd : Nat) (x : CS) (w : World) (h : ChGo W F cb K n sd x w) (hx : x.Inv) (hW : x.s.W.length ≤ 8000) :
    Calls Tryz.prog 53 #[.pointer (some ⟨cb, 0, none⟩)] w fun e w' => e = .returned (sumsV (hasK x.p 6) x.s.total x.p.supply) ∧ Below w.heap.size w w' := by
  have H0 := Lib.hid h
  obtain ⟨w1, hw1⟩ : ∃ w1, w.alloc (.cells #[.int .i64 0, .int .i64 0, .int .i64 0] 71) = w1 := ⟨_, rfl⟩
  have B1 : Below w.heap.size w w1 := by rw [← hw1]; exact (Below.refl _ _).alloc (Nat.le_refl _) _
  have R1 : RowAt w.heap.size 71 [.int .i64 0, .int .i64 0, .int .i64 0] w1 := by rw [← hw1]; exact RowAt.new _ _ _
  have HR1 := Lib.hid R1
  have c0 := (h.below B1).c0
  have HB1 := Lib.hid B1
  have HT := Lib.hid (fun wx (hb : Below w.heap.size w wx) => st_Total (sb := K.sb) (h.below hb).ch.st hW)
  have HC := Lib.hid (fun wx (hb : Below w.heap.size w wx) => (h.below hb).c0)
  have HSP := Lib.hid (fun wx (hb : Below w.heap.size w wx) => purse_Supply K.pb x.p wx (h.below hb).ch.purse)
  have HSK := Lib.hid (fun wx (hb : Below w.heap.size w wx) => chain_Stakes (h.below hb))
  have HPH := Lib.hid (fun k wx (hb : Below w.heap.size w wx) => purse_Has K.pb x.p k wx (h.below hb).ch.purse)
  have hfl := h.ch.footlt
  have HKS := Lib.hid (fun k (hk : k < 6) => And.intro (hasK_step hx.p hk) (hx.p.at_bd k))
  have HKB := Lib.hid (fun k (hk : k ≤ 6) => hasK_bd hx.p (k := k) hk)
  have hsum := hx.p.sum_bd; have hsum2 := hx.p.le; have hsum3 := hx.p.most
  have HSM := Lib.hid (And.intro hsum (And.intro hsum2 hsum3))
  clear h hx hfl B1 R1 hsum hsum2 hsum3
  go_enter Tryz.func53, Tryz.ntmps53
  go_upto_region 1 with fail
  go_cut [3] (fun s3 wx => ∃ g, s3 = .pointer (some ⟨g, 0, none⟩) ∧ w.heap.size < g ∧ RowAt g 71 [.int .i64 0, .int .i64 x.s.total, .int .i64 x.p.supply] wx ∧ Below w.heap.size w wx ∧ RowAt w.heap.size 71 [.int .i64 0, .int .i64 0, .int .i64 0] wx)
  case first =>
    have z1 := HB1.out.size
    go_region_held3 (fun wx => wx.cell? ⟨cb, 0, none⟩ = some (.pointer (some ⟨K.pb, 0, none⟩))) (exact HC.out _ (by repeat (first | exact H2.out | exact HB1.out | apply Below.drewN | apply balloc | (refine Below.setCell ?_ (by simp; omega) _))))
      (first
        | (go_at_call 35; refine (HSK.out _ (by repeat (first | exact H2.out | exact HB1.out | apply Below.drewN | apply balloc | (refine Below.setCell ?_ (by simp; omega) _)))).mono ?_; rintro y wa ⟨rfl, rfl⟩)
        | (go_at_call 17; refine (HT.out (w1.drewN 1) (HB1.out.drewN 1)).mono ?_; rintro y wc ⟨rfl, hb⟩; have H2 := Lib.hid (btrans (HB1.out.drewN 1) hb); have HR2 := Lib.hid ((HR1.out.drewN 1).below hb HR1.out.lt); have z2 := H2.out.size)
        | (go_at_call 17; refine (HT.out _ (balloc (HB1.out.drewN 1) _)).mono ?_; rintro y wc ⟨rfl, hb⟩; have H2 := Lib.hid (btrans (balloc (HB1.out.drewN 1) _) hb); have HR2 := Lib.hid (((HR1.out.drewN 1).alloc _).below hb (by have := HR1.out.lt; simp; omega)); have rr : RowAt w1.heap.size 71 [.int .i64 0, .int .i64 0, .int .i64 0] wc := (RowAt.new (w1.drewN 1) 71 [.int .i64 0, .int .i64 0, .int .i64 0]).below hb (by simp); have q0 := rr.cell 0; have q1 := rr.cell 1; have q2 := rr.cell 2; have r0 := rr.frozen 0; have r1 := rr.frozen 1; have r2 := rr.frozen 2; simp only [List.getElem?_cons_zero, List.getElem?_cons_succ] at q0 q1 q2; have z2 := H2.out.size)
        | (go_at_call 37; refine (HSP.out _ (by repeat (first | exact H2.out | exact HB1.out | apply Below.drewN | apply balloc | (refine Below.setCell ?_ (by simp; omega) _)))).mono ?_; rintro y wd ⟨rfl, rfl⟩))
    all_goals go_wp2_with fail
    all_goals go_meet
    all_goals (case rel => first
      | exact ⟨wc.heap.size, rfl, HR2.out.lt, RowAt.new _ _ _, balloc H2.out _, HR2.out.alloc _⟩
      | exact ⟨w1.heap.size, rfl, HR1.out.lt, ((rr.set 0 _).set 1 _).set 2 _, ((H2.out.setCell (p := ⟨w1.heap.size, 0, none⟩) z1 _).setCell (p := ⟨w1.heap.size, 1, none⟩) z1 _).setCell (p := ⟨w1.heap.size, 2, none⟩) z1 _, ((HR2.out.set_other (p := ⟨w1.heap.size, 0, none⟩) (fun e => by have := HR1.out.lt; simp only at e; omega) _).set_other (p := ⟨w1.heap.size, 1, none⟩) (fun e => by have := HR1.out.lt; simp only at e; omega) _).set_other (p := ⟨w1.heap.size, 2, none⟩) (fun e => by have := HR1.out.lt; simp only at e; omega) _⟩)
  case rest =>
    obtain ⟨g, rfl, hgl, hrow, hbl, hr0⟩ := hcut
    have HA0 := Lib.hid (And.intro hrow (And.intro hbl hr0)); clear hrow hbl hr0
    have hk0 : hasK x.p 0 = 0 := rfl
    go_wp2_with fail
    go_loopg [14] 6 (fun n i wr => ∃ k : Nat, n + k = 6 ∧ i = .int .i64 k ∧ RowAt g 71 [.int .i64 (hasK x.p k), .int .i64 x.s.total, .int .i64 x.p.supply] wr ∧ Below w.heap.size w wr ∧ RowAt w.heap.size 71 [.int .i64 0, .int .i64 0, .int .i64 0] wr)
    case atStart => exact ⟨0, rfl, rfl, by rw [hk0]; exact HA0.out.1, HA0.out.2.1, HA0.out.2.2⟩
    case round =>
      clear HA0
      obtain ⟨k, hn, rfl, hr, hb, hz⟩ := hrel
      have HN := Lib.hid hn; have HR := Lib.hid hr; have HB := Lib.hid hb; have HZ := Lib.hid hz; clear hn hr hb hz
      have gc := HR.out.cell 0; have gf := HR.out.frozen 0
      simp only [List.getElem?_cons_zero] at gc
      have cc := HC.out _ HB.out
      by_cases hk : k < 6
      · obtain ⟨s1, s2⟩ := HKS.out k hk
        have s3 := HKB.out (k + 1) (by omega)
        have s4 := HKB.out k (by omega)
        obtain ⟨t1, t2, t3⟩ := HSM.out
        have hown : ownB (k : Int) = true := ownB_iff.2 (by omega)
        have HPK := Lib.hid (fun wx hb => HPH.out (k : Int) wx hb)
        simp only [hown, if_true] at HPK
        rw [s1] at s3
        have HS1 := Lib.hid s1; clear s1
        generalize hasK x.p k = hk0' at *
        generalize x.p.at k = hv at *
        have hw : IntKind.i64.wrap (hk0' + hv) = hk0' + hv := IntWalk.i64_in _ ⟨by omega, by omega⟩
        clear s2 s3 s4 t1 t2 t3 hown
        go_wp2_with fail
        go_region_with ((go_at_call 44; refine (HPK.out _ (HB.out.drewN 1)).mono ?_; rintro y wa ⟨rfl, rfl⟩))
        all_goals
          go_wp2_with fail
          have hn := HN.out
          go_roundg (6 - (k + 1))
          case measure => omega
          case rel => exact ⟨k + 1, by omega, by go_num, by rw [HS1.out]; exact (HR.out.drewN 1).set 0 _, (HB.out.drewN 1).setCell (p := ⟨g, 0, none⟩) (by simp only; omega) _, (HZ.out.drewN 1).set_other (p := ⟨g, 0, none⟩) (fun e => by simp only at e; omega) _⟩
      · have hk6 : k = 6 := by have := HN.out; omega
        subst hk6
        have g1 := HR.out.cell 1; have g2 := HR.out.cell 2
        have z0 := HZ.out.cell 0; have z1 := HZ.out.cell 1; have z2 := HZ.out.cell 2; have f0 := HZ.out.frozen 0; have f1 := HZ.out.frozen 1; have f2 := HZ.out.frozen 2
        simp only [List.getElem?_cons_zero, List.getElem?_cons_succ] at g1 g2 z0 z1 z2
        go_wp2_with fail
        (try simp only [Exit.inBlock, Exit.then])
        refine bodyPost_ret (v := sumsV (hasK x.p 6) x.s.total x.p.supply) (results_cell_row rfl _ _ w.heap.size _ #[.int .i64 (hasK x.p 6), .int .i64 x.s.total, .int .i64 x.p.supply] _ _ rfl (((HZ.out.set 0 _).set 1 _).set 2 _) Tryz.underlying71 rfl (by kernel_rfl)) rfl ⟨rfl, ((HB.out.setCell (p := ⟨w.heap.size, 0, none⟩) (Nat.le_refl _) _).setCell (p := ⟨w.heap.size, 1, none⟩) (Nat.le_refl _) _).setCell (p := ⟨w.heap.size, 2, none⟩) (Nat.le_refl _) _⟩
end Go.Proofs.YtajnfkmkombajacGreatDoor
namespace Go.Proofs.YtajnfkmkombajacGreatDoor
open Go.RowKit Go.Maps

theorem reward_sum (x : CS) (b : Int) : (x.reward b).2.p.sum = x.p.sum := by
  have hg : (x.p.growOp x.issues).2.sum = x.p.sum := by unfold PS.growOp; split <;> rfl
  unfold CS.reward
  split
  · rfl
  · split
    · rfl
    · split
      · exact hg
      · exact hg
theorem played_gen {x : CS} (h : x.Inv) (t : x.turnC 0 = 0) (hl : x.level = 0) : x.runA 1 [5, -1] = [0, -1] ∧ hasK (x.runS 1 [5, -1]).p 6 = x.p.sum := by
  have e0 : x.oneOp 1 5 = (x.turnC 0, x.btS 1 0) := by
    obtain ⟨-, -, -, -, -, E5⟩ := CS.oneOp_parts x 1 (v := 5) rfl rfl rfl rfl rfl rfl rfl
    have := E5 (by decide)
    rw [show ((5 : Int) / 8 % 8) = 0 by decide] at this
    exact this
  have e1 : x.playOp 1 5 = (((0 : Nat) : Int), x.btS 1 0) := by
    have : x.playOp 1 5 = (((x.oneOp 1 5).1 : Int), (x.oneOp 1 5).2) := if_neg (by decide)
    rw [this, e0, t]
  have e2 : ∀ y : CS, y.playOp 1 (-1) = (-1, y) := fun y => if_pos (by decide)
  have hinv : (x.btS 1 0).Inv := by
    have := (CS.play_ok h 1 5).inv
    rw [e1] at this; exact this
  have hS : x.runS 1 [5, -1] = x.btS 1 0 := by
    show ((x.playOp 1 5).2.playOp 1 (-1)).2 = _
    rw [e1, e2]
  refine ⟨?_, ?_⟩
  · show [(x.playOp 1 5).1, ((x.playOp 1 5).2.playOp 1 (-1)).1] = _
    rw [e1, e2]; rfl
  · rw [hS, hasK_all hinv.p]
    have hb : x.btS 1 0 = (x.reward (x.turnV 1 0)).2.stepOp := if_pos t
    obtain ⟨i1, i2, i3, i4, i5⟩ := CS.reward_inv h (x.turnV 1 0)
    rw [hb]
    unfold CS.stepOp
    rw [if_neg (by rw [i5, hl]; decide)]
    exact reward_sum x _
theorem played_facts : CS.new.runA 1 [5, -1] = [0, -1] ∧ hasK (CS.new.runS 1 [5, -1]).p 6 = 57000 := by
  have h := played_gen CS.new_inv begun_facts.1 rfl
  have e : CS.new.p.sum = 57000 := by decide
  rw [e] at h; exact h

theorem sumsGuard : Tryz.prog.eqGuardType Tryz.prog.depth 71 = false := by kernel_rfl
@[go_sem] theorem sums_field (a b c : Value) (w : World) : (Instr.field 71 (.agg #[a, b, c]) 0).run Tryz.prog w = .ok a w := by kernel_rfl
theorem sums_equal (d : Nat) (a b c : Int) (w : World) : (Op.equalIn (d + 2) 71 (sumsV a b c) (sumsV a b c)).run Tryz.prog w = .ok true w := by
  have hu := Tryz.underlying71
  have hui := Tryz.underlying3
  unfold sumsV
  rw [run_equalIn_agg _ _ _ _ _ (by unfold Program.fieldsOf; rw [hu]) (by kernel_rfl)]
  unfold Program.fieldsOf
  rw [hu]
  simp [Op.eqFields, part, run_equalIn_int w _ _ .i64 .i64 _ _ hui, Result.andThen]
theorem sums_neq (a b c : Int) (w : World) : (binOp .neq 71 (sumsV a b c) (sumsV a b c)).run Tryz.prog w = .ok (.bool false) w := by
  have h := sums_equal 9998 a b c w
  unfold sumsV at h ⊢
  rw [run_neq_struct, h]; rfl

set_option maxRecDepth 8000 in
set_option maxHeartbeats 1000000 in
theorem law_played (A : Nat → Addr) (w : World) (HS : Sents A w) :
    Calls Tryz.prog 50 #[] w fun e w' => e = .returned (.bool true) ∧ Below w.heap.size w w' := by
  have m2 : (2 : Nat) ∈ [1, 2, 3, 4, 5, 6, 7, 8, 9, 10] := by decide
  have m4 : (4 : Nat) ∈ [1, 2, 3, 4, 5, 6, 7, 8, 9, 10] := by decide
  have m5 : (5 : Nat) ∈ [1, 2, 3, 4, 5, 6, 7, 8, 9, 10] := by decide
  have m6 : (6 : Nat) ∈ [1, 2, 3, 4, 5, 6, 7, 8, 9, 10] := by decide
  have m7 : (7 : Nat) ∈ [1, 2, 3, 4, 5, 6, 7, 8, 9, 10] := by decide
  have m8 : (8 : Nat) ∈ [1, 2, 3, 4, 5, 6, 7, 8, 9, 10] := by decide
  have HF := Lib.hid played_facts
  have HSS := Lib.hid HS; clear HS
  go_enter Tryz.func50, Tryz.ntmps50
  go_wp2_with fail
  refine (chain_New A [1, 2, 3, 4, 5, 6, 7, 8, 9, 10] 1 _ HSS.out.errs m2 m4 m5 m6 m7 m8).mono ?_
  rintro e w1 ⟨cb, K, rfl, g1⟩
  have H1 := Lib.hid g1.cn; clear g1
  obtain ⟨wa, hwa⟩ : ∃ wa, w1.alloc (.cells #[.int .i64 5, .int .i64 (-1)] 3) = wa := ⟨_, rfl⟩
  have RA : RowAt w1.heap.size 3 (([5, -1] : List Int).map (Value.int .i64)) wa := by rw [← hwa]; exact RowAt.new _ _ _
  have BA : Below w1.heap.size w1 wa := by rw [← hwa]; exact (Below.refl _ _).alloc (Nat.le_refl _) _
  have HA := Lib.hid (H1.out.next BA)
  have HRA := Lib.hid RA
  have HN := Lib.hid (fun c hc hf => by
    have := H1.out.ch.footlt c hf
    subst hc; omega : ∀ c, c = w1.heap.size → ¬ K.foot cb c)
  clear RA BA
  go_wp2_with fail
  refine (play_Run A w cb K 3 1 CS.new _ 0 (some ⟨w1.heap.size, 0, none⟩) 2 [5, -1] HA.out PlayQ.new (RdI.of_rowAt HRA.out (by decide)) (by intro v hv; simp at hv; omega) (fun a ha => by cases ha; exact ⟨HRA.out.lt, HN.out _ rfl⟩) (by decide) (by decide) (by decide) HSS.out).mono ?_
  rintro e w2 ⟨out, K2, n2, rfl, hP, hn2⟩
  rw [HF.out.1] at hP
  have HP := Lib.hid hP; have HN2 := Lib.hid hn2; clear hP hn2
  obtain ⟨oa, oc, rfl⟩ := own_shape HP.out.own
  have HC := Lib.hid (HA.out.of HP.out.go)
  have HO := Lib.hid (RdI.of_own HP.out.own)
  go_wp2_with fail
  have bw : ∀ ob, Below w2.heap.size w2 (w2.alloc ob) := fun ob => (Below.refl _ _).alloc (Nat.le_refl _) _
  have HBW := Lib.hid bw; clear bw
  refine (ref_SameInts oa (some ⟨w2.heap.size, 0, none⟩) 2 oc 2 [0, -1] _ (HO.out.below (HBW.out _)) (RdI.of_rowAt (zs := [0, -1]) (RowAt.new w2 _ [.int .i64 0, .int .i64 (-1)]) (by decide))).mono ?_
  rintro e w3 ⟨rfl, hd⟩
  have H3 := Lib.hid ((HC.out.next (HBW.out (.cells #[.int .i64 0, .int .i64 (-1)] 3))).next hd.below); clear hd
  have hq := Lib.hid (PlayQ.run (x := CS.new) 1 [5, -1] PlayQ.new)
  have HAD := Lib.hid (play_Add A [1, 2, 3, 4, 5, 6, 7, 8, 9, 10] w3 (K2.foot cb) cb K2 n2 1 _ w3 H3.out.go hq.out.inv (by have := hq.out.w; simp at this; omega))
  rw [HF.out.2] at HAD
  unfold sumsV at HAD
  go_wp2_with fail
  refine HAD.out.mono ?_
  rintro e w4 ⟨rfl, hb4⟩
  have H4 := Lib.hid (H3.out.next hb4); clear hb4
  go_wp2_with fail
  go_ret
  exact ⟨rfl, H4.out.below⟩
end Go.Proofs.YtajnfkmkombajacGreatDoor
namespace Go.Proofs.YtajnfkmkombajacGreatDoor
open Go

/-- who returns alone returns with others that only leave -/
theorem handed_leaving {a : Assume} {C : Checked} {os : Os} {f : FuncId} {r : Reach} {Pre : World → Array Value → Prop} {Post : World → Array Value → Value → World → Prop} (h : ReturnsInHanded a C os f r Pre Post) : ReturnsInLeavingWide a C os f r Pre Post := fun enter => by
  obtain ⟨h1, h2, h3, h4, h5⟩ := h enter
  refine ⟨h1, h2, h3, h4, fun w tape i hf => ?_⟩
  obtain ⟨n, v, w', k1, k2, k3, k4, ⟨j, last, e1, e2, q, ho, he⟩, al⟩ := h5 w tape i hf
  exact ⟨n, v, w', k1, k2, k3, k4, ⟨j, last, e1, e2, ho, onlyLeaving_of_quiet q, he⟩, al⟩

theorem tied_goes (Lk : Looks) {p : Pinned} {s : OpenSpec} {c : OpenClaim} (kinds : List LaidKind) (tests : Bool) (har : Bool × String) (lk : Bool)
    (hc : c.holds p s) (hw : c.wfByText s = true) (htie : c.laidByTextAt Lk p kinds tests)
    (hst : c.start = .entering) (hnb : c.noBlocks = false ∧ c.again = false) (hm : p.checked.prog.mainIs = some (har.1, har.2.toList)) (hn : (!har.1 && har.2.isEmpty && !lk) = false)
    (hl : ∀ f fn, p.checked.prog.funcNamed c.func = some f → p.checked.prog.funcs[f]? = some fn → lk = p.checked.prog.looks [] ∧ ∀ (j : Nat) t, fn.params[j]? = some t → p.checked.prog.wantsStandIn t = false)
    (hg : true = c.goesBy p.checked.prog) :
    Claim7.holds p (.plain s) { stood := { row := c, standIns := [], harness := har, looks := lk }, kinds := [], alts := [], goes := true, laidByText := true, laidKinds := kinds, laidTests := tests, laidLooks := Lk } := by
  have h6 : ∀ r : OpenClaim, Claim7.isSixth { stood := { row := r, standIns := [], harness := har, looks := lk }, kinds := [] } = false := fun r => by simpa [Claim7.isSixth] using hn
  refine ⟨Claim7.tied_new_at Lk kinds tests (Claim7.new_of_sixth hc har lk hst hnb hm (h6 c) hl) hw, (fun D hD => by cases hD), htie, (fun h => by cases h), hg⟩
end Go.Proofs.YtajnfkmkombajacGreatDoor
