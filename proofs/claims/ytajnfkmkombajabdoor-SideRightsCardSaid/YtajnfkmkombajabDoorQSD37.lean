/-
  SideRights behind side.Rights, to the end of the run.
  Contract of the document's SameInts, at the same numbers.
  abreast behind side.Rights: alone, and in company.
  SideRights: the whole run.
  From the state at a call to what SideRights' run asks of it.
  A call that starts goroutines, of a row that lists variables: one good run from every start.
-/
import Derived.Test.YtajnfkmkombajabDoorQSD36
import Derived.Test.YtajnfkmkombajabDoorProg
import Derived.Test.YtajnfkmkombajabDoorQSD22
import Derived.Deep.QuietTactic
import Derived.BigQuiet
import Derived.Test.YtajnfkmkombajabDoorQSD34
import Derived.Test.YtajnfkmkombajabDoorQSD24
import Derived.Conc.LeavingOf
import Derived.Handed
import Derived.ProofKit
set_option linter.unusedVariables false
set_option linter.unusedSimpArgs false
namespace Go.Proofs.YtajnfkmkombajabDoor
open Go Go.Conc Go.ConcN Go.RowKit Go.Conc.Lib Go.ConcR.Gen Go.ConcN.Gen
section
variable {n0 : Nat} {A : Nat → Addr} {W0 : World} {aw av : Option Addr} {cw cv : Nat} {sd : Nat} {cy wk : Int} {zs ls : List Int} {o1 o2 : Option Addr} {c1 c2 : Nat}
def RightsE (n0 : Nat) (A : Nat → Addr) (zs : List Int) (s : Nat) (c : Int) (ls : List Int) (wk : Int) (V : Value) (W : World) (M : Nat → Prop) : Prop :=
 (wfC wk (ls.length : Int) ≠ 0 ∧ V = .tuple #[.slice none 0 0, ev A (wfC wk (ls.length : Int))]) ∨ (wfC wk (ls.length : Int) = 0 ∧ RightsM n0 A zs s c ls V W M)
theorem wfC_ten (wk many : Int) : wfC wk many ≤ 10 := by
 unfold wfC
 split
 · decide
 · split <;> decide
theorem first_one {i k : Nat} (hz : ∀ j, j < i → (bakerF zs cy (ls.getD j 0) 0).1 = 0) (hb : (bakerF zs cy (ls.getD i 0) 0).1 ≠ 0) (kz : ∀ j, j < k → (bakerF zs cy (ls.getD j 0) 0).1 = 0) (kb : (bakerF zs cy (ls.getD k 0) 0).1 ≠ 0) : k = i := by
 rcases Nat.lt_trichotomy k i with q | q | q
 · exact absurd (hz k q) kb
 · exact q
 · exact absurd (kz i q) hb
theorem side_end {S M : Nat → Prop} {W : World} {V : Value} (hI : Init n0 A W) (hB : Below n0 W0 W) (hS : ∀ b, b < n0 → S b ∨ M b) (hM : ∀ b, M b → b < W.heap.size) (hg : Tryd.prog.globals.size ≤ n0) (hn : ls.length < 1000000) (hsd : sd < 18446744073709551616) (hw : ArgRow n0 W aw cw zs) (hv : ArgRow n0 W av cv ls)
   (hE : RightsE n0 A zs sd cy ls wk V W M) :
   GoesW Tryd.prog true (fun _ => True) S (AtEnd' Tryd.prog S fun v w => v = .bool true ∧ Below n0 W0 w) (G ((frS4 aw cw zs sd cy av cv ls wk o1 c1 o2 c2).finish V) []) W M := by
 have hsz := hI.size
 -- through the loop over the levels
 have main : ∀ (X0 X1 : Value), wfC wk (ls.length : Int) = 0 →
     (∀ (T : Array Value) (W1 : World) (M1 : Nat → Prop) (Bf i : Nat) (f : Nat × Int), Kn aw cw zs sd cy av cv ls X0 X1 Bf i T → M1 Bf → W.heap.size ≤ Bf → Init n0 A W1 → Below n0 W0 W1 → (∀ b, b < n0 → S b ∨ M1 b) → (∀ b, M b → M1 b) → (∀ b, M1 b → b < W1.heap.size) → ArgRow n0 W1 aw cw zs → ArgRow n0 W1 av cv ls → (∀ b, M b → W1.heap[b]? = W.heap[b]?) → W1.heap[Bf]? = some (.cells #[.int .i64 (f.1 : Int), .int .i64 f.2] 72 (0, 0)) → FirstF zs cy ls f →
       GoesW Tryd.prog true (fun _ => True) S (AtEnd' Tryd.prog S fun v w => v = .bool true ∧ Below n0 W0 w) (G ((base 12).at ⟨T, []⟩ [.code restS12]) []) W1 M1) →
     GoesW Tryd.prog true (fun _ => True) S (AtEnd' Tryd.prog S fun v w => v = .bool true ∧ Below n0 W0 w) (G ((frS4 aw cw zs sd cy av cv ls wk o1 c1 o2 c2).finish (.tuple #[X0, X1])) []) W M := by
   intro X0 X1 h0 hk
   refine side_mid (zs := zs) (sd := sd) (cy := cy) (ls := ls) hM (Nat.le_trans hg hsz) fun T W1 M1 Bf hK mf hBf hf hMM hM1 q => ?_
   have hS1 : ∀ b, b < n0 → S b ∨ M1 b := fun b p => (hS b p).imp (fun p => p) (hMM b)
   have hI1 := init_rely hI q hS
   have hB1 := below_rely hB hsz q hS
   have hw1 := hw.rely hsz q hS
   have hv1 := hv.rely hsz q hS
   rw [h0] at hf
   refine loop1_all (S := S) hn hsd (Nat.le_trans hsz hBf) hg ls.length 0 T W1 M1 (Nat.zero_add _) hK hS1 hM1 hI1.size hw1 hv1 (fun j hj => absurd hj (Nat.not_lt_zero _)) mf hf fun T2 W2 M2 i f hK2 hMM2 hM2 q2 hf2 hF => ?_
   have q2' : RelyS S (fun b => M1 b ∧ b ≠ Bf) W1 W2 → True := fun _ => trivial
   have keep2 : ∀ b, b < W1.heap.size → b ≠ Bf → S b ∨ M1 b → W2.heap[b]? = W1.heap[b]? := fun b hb hne hs => q2.keep b hb (hs.imp (fun p => ⟨p, hne⟩) fun p => ⟨p, hne⟩)
   have hlow : ∀ b, b < n0 → W2.heap[b]? = W1.heap[b]? := fun b hb => keep2 b (Nat.lt_of_lt_of_le hb hI1.size) (by omega) (hS1 b hb)
   have hsz2 : n0 ≤ W2.heap.size := Nat.le_trans hI1.size q2.size
   refine hk T2 W2 M2 Bf i f hK2 (hMM2 _ mf) hBf (hI1.kept hlow hsz2) ⟨q2.os.trans hB1.os, q2.tape.trans hB1.tape, q2.out.trans hB1.output, Nat.le_trans hB1.size q2.size, fun b hb => by rw [hlow b hb]; exact hB1.block b hb⟩ (fun b p => (hS1 b p).imp (fun p => p) (hMM2 b)) (fun b p => hMM2 b (hMM b p)) hM2 (argRow_keep hw1 hI1.size (Nat.le_trans hsz hBf) q2 hS1) (argRow_keep hv1 hI1.size (Nat.le_trans hsz hBf) q2 hS1) (fun b p => ?_) hf2 hF
   have hb := hM b p
   rw [keep2 b (Nat.lt_of_lt_of_le hb q.size) (by omega) (.inr (hMM b p)), q.keep b hb (.inr p)]
 rcases hE with ⟨h0, rfl⟩ | ⟨h0, ⟨hz, Bo, ro, t, rfl, mBo, nBo, zro, hro, hrows⟩ | ⟨i, hi, hz, hf, x, rfl, hx⟩⟩
 · refine side_mid (zs := zs) (sd := sd) (cy := cy) (ls := ls) hM (Nat.le_trans hg hsz) fun T W1 M1 Bf hK mf hBf hf hMM hM1 q => ?_
   refine loop1_done hK hn (.inr h0) mf hf fun T1 hK1 => ?_
   exact fault_end (f := (wfC wk (ls.length : Int), -1)) hK1 (init_rely hI q hS) (below_rely hB hsz q hS) (fun b p => (hS b p).imp (fun p => p) (hMM b)) hM1 mf hf (wfC_ten _ _) h0 (.inl ⟨rfl, rfl⟩)
 · refine main _ _ h0 fun T W1 M1 Bf i f hK mf hBf hI1 hB1 hS1 hMM hM1 hw1 hv1 hkeep hf hF => ?_
   rcases hF with ⟨rfl, -⟩ | ⟨k, hk, -, kb, -⟩
   · refine good_end hK mf hf fun T1 hK1 => ?_
     refine rest_end hK1 hB1 hI1.size hS1 hM1 hg hn hsd hw1 hv1 hz (hMM _ mBo) (by rw [hkeep Bo mBo]; exact hro) fun i hi => ?_
     obtain ⟨v, hv1, hv2⟩ := hrows i hi
     exact ⟨v, hv1, (hv2.kept fun b p => hkeep b p.1).mono fun b p => ⟨hMM b p.1, p.2⟩⟩
   · exact absurd (hz k hk) kb
 · refine main _ _ h0 fun T W1 M1 Bf k f hK mf hBf hI1 hB1 hS1 hMM hM1 hw1 hv1 hkeep hf2 hF => ?_
   rcases hF with ⟨-, ha⟩ | ⟨k, hk, kz, kb, rfl⟩
   · exact absurd (ha i hi) hf
   · obtain rfl := first_one hz hf kz kb
     exact fault_end (f := ((bakerF zs cy (ls.getD k 0) 0).1, (k : Int))) hK hI1 hB1 hS1 hM1 mf hf2 (bakerF_ten _ _ _ _) kb ((hx.kept fun b p => hkeep b p.1).mono fun b p => ⟨hMM b p.1, p.2⟩)
end
end Go.Proofs.YtajnfkmkombajabDoor
namespace Go.Proofs.YtajnfkmkombajabDoor
open Go.RowKit
set_option maxHeartbeats 400000 in
theorem ref_SameInts (ax ay : Option Addr) (n cx cy : Nat) (xs : List Int) (w : World) (RX : RdI .i64 w ax n cx xs) (RY : RdI .i64 w ay n cy xs) :
   Calls Tryd.prog 126 #[.slice ax n cx, .slice ay n cy] w fun e w' => e = .returned (.bool true) ∧ Dr w w' := by
 have hm : n ≤ 9223372036854775807 := by have := RX.lc; have := RX.cm; unfold maxLen at *; omega
 have HX := Lib.hid RX; have HY := Lib.hid RY
 have hne : ((n : Int) != (n : Int)) = false := bne_self_eq_false _
 clear RX RY
 go_enter Tryd.func126, Tryd.ntmps126
 go_wp2_with fail
 go_loopw [5] (fun i wr => ∃ k : Nat, k ≤ n ∧ i = .int .i64 k ∧ Dr w wr) (fun i _ => n - (intOf i).toNat)
 case atStart => exact ⟨0, Nat.zero_le _, rfl, Dr.refl _⟩
 case round =>
   obtain ⟨k, hk, rfl, d, rfl⟩ := hrel
   by_cases hlt : k < n
   · obtain ⟨b, off, ha, hc⟩ := HX.out.cells k hlt
     obtain ⟨b', off', ha', hc'⟩ := HY.out.cells k hlt
     have Ha := Lib.hid ha; have Ha' := Lib.hid ha'
     clear ha ha'
     have h1 := Ha.out; subst h1
     have h2 := Ha'.out; subst h2
     generalize xs.getD k 0 = x at *
     have hxx : (x != x) = false := bne_self_eq_false _
     have i0 : (0 : Int) ≤ (k : Int) := by omega
     have i1 : (k : Int) < (n : Int) := by omega
     go_wp2_with fail
     go_quiet (fail)
     go_wp2_with fail
     go_roundw
     case rel => exact ⟨k + 1, by omega, by go_num, d + nq, by simp [World.drewN]⟩
     case measure => simp [intOf]; omega
   · go_wp2
     go_ret
     exact ⟨rfl, d, rfl⟩
end Go.Proofs.YtajnfkmkombajabDoor
namespace Go.Proofs.YtajnfkmkombajabDoor
open Go Go.Conc Go.ConcN Go.RowKit Go.Conc.Lib Go.ConcR.Gen Go.ConcN.Gen
theorem abreast_one : bakerF [0, 3, 0] 2 9 0 = (0, -1) ∧ ∀ r, bakerV [0, 3, 0] 1 2 9 r = 1 := by
 have hw : weightsF [0, 3, 0] = (0, -1) := by rfl
 refine ⟨by unfold bakerF; rw [if_pos (by unfold roundOk; omega), hw], fun r => ?_⟩
 obtain ⟨k, hk, hl, hp⟩ := bakerV_weight (zs := [0, 3, 0]) (by rw [hw]) 1 2 9 r
 match k, hl with
 | 0, _ => simp at hp
 | 1, _ => exact hk
 | 2, _ => simp at hp
theorem abreast_rounds : roundsV [0, 3, 0] (1 : Nat) 2 9 8 = [1, 1, 1, 1, 1, 1, 1, 1] := by
 unfold roundsV
 simp only [List.range, List.range.loop, List.map_cons, List.map_nil]
 simp only [show ((1 : Nat) : Int) = 1 from rfl, abreast_one.2]
set_option maxRecDepth 100000 in
set_option maxHeartbeats 4000000 in
theorem ab_rest (Bo rb cp : Nat) (w : World) (h0 : w.cell? ⟨Bo, 0, none⟩ = some (.slice (some ⟨rb, 0, none⟩) 8 cp)) (RX : RdI .i64 w (some ⟨rb, 0, none⟩) 8 cp [1, 1, 1, 1, 1, 1, 1, 1]) (v0 v3 v4 v5 v6 v7 v8 v9 v10 v11 v12 v13 v14 v15 v16 v17 v18 v19 v20 v21 v22 : Value) :
   restAb.wp Tryd.prog (bodyPost Tryd.prog Tryd.f98 fun e w' => ∃ v, e = .returned v ∧ v = .bool true) ⟨(List.toArray (v0 :: .slice (some ⟨Bo, 0, none⟩) 1 1 :: .nilIface :: v3 :: v4 :: v5 :: v6 :: v7 :: v8 :: v9 :: v10 :: v11 :: v12 :: v13 :: v14 :: v15 :: v16 :: v17 :: v18 :: v19 :: v20 :: v21 :: v22 :: [])), []⟩ w := by
 have hb : Below w.heap.size w (w.alloc (.cells #[.int .i64 1, .int .i64 1, .int .i64 1, .int .i64 1, .int .i64 1, .int .i64 1, .int .i64 1, .int .i64 1] 3)) := (Below.refl _ _).alloc (Nat.le_refl _) _
 have RY : RdI .i64 (w.alloc (.cells #[.int .i64 1, .int .i64 1, .int .i64 1, .int .i64 1, .int .i64 1, .int .i64 1, .int .i64 1, .int .i64 1] 3)) (some ⟨w.heap.size, 0, none⟩) 8 8 [1, 1, 1, 1, 1, 1, 1, 1] := by
   refine ⟨rfl, Nat.le_refl _, by unfold maxLen; decide, fun e => (by cases e), fun i hi => ⟨_, 0, rfl, ?_⟩⟩
   match i, hi with
   | 0, _ => simp [go_sem]
   | 1, _ => simp [go_sem]
   | 2, _ => simp [go_sem]
   | 3, _ => simp [go_sem]
   | 4, _ => simp [go_sem]
   | 5, _ => simp [go_sem]
   | 6, _ => simp [go_sem]
   | 7, _ => simp [go_sem]
 have HS := Lib.hid (ref_SameInts _ _ 8 cp 8 _ _ (RX.below hb) RY)
 clear RX RY hb
 simp only [restAb, bodyB, Tryd.f98, Option.getD_some]
 go_wp2_with fail
 refine HS.out.mono ?_
 rintro e w1 ⟨rfl, -⟩
 go_wp2_with fail
 go_ret
 exact ⟨_, rfl, rfl⟩
section
variable {n0 : Nat} {A : Nat → Addr} {W0 : World} {r1 r2 : Nat}
set_option maxRecDepth 100000 in
set_option maxHeartbeats 8000000 in
theorem abreast_back {S M : Nat → Prop} {W : World} {g : Goroutine} {C : Frame} {Cs : List Frame} {Stop : Goroutine → World → (Nat → Prop) → Prop} (h : Back n0 A W0 (some ⟨r1, 0, none⟩) 3 [0, 3, 0] 1 2 (some ⟨r2, 0, none⟩) 1 [9] 2 (frB r1 r2 :: C :: Cs) S g W M) (hM : ∀ b, M b → b < W.heap.size)
   (hk : ∀ (W2 : World) (M2 : Nat → Prop), Below n0 W0 W2 → Init n0 A W2 → (∀ b, b < n0 → S b ∨ M2 b) → (∀ b, M2 b → b < W2.heap.size) → GoesW Tryd.prog true (fun _ => True) S Stop (G (C.finish (.bool true)) Cs) W2 M2) :
   GoesW Tryd.prog true (fun _ => True) S Stop g W M := by
 have h' := h
 obtain ⟨b5, b6, b7, b8, -, -, -, hB, hT, hSM, -⟩ := h'
 refine rights_back h hM (by decide) fun V W1 N hN hrel hV => ?_
 clear h
 have hS0 : ∀ b, b < n0 → S b ∨ M b := fun b q => hSM b (.inl q)
 have hB1 := below_rely hB hT.ini.size hrel hS0
 have hI1 := init_rely hT.ini hrel hS0
 have hM1 : ∀ b, (M b ∨ N b) → b < W1.heap.size := fun b q => q.elim (fun q => Nat.lt_of_lt_of_le (hM b q) hrel.size) fun q => (hN b q).2
 have hone := abreast_one.1
 rcases hV with ⟨hz, Bo, ro, t, rfl, mBo, nBo, zro, hro, hrows⟩ | ⟨i, hi, -, hf, -⟩
 rotate_left
 · exfalso
   obtain rfl : i = 0 := by have : i < 1 := hi
                            omega
   exact hf (by show (bakerF [0, 3, 0] 2 9 0).1 = 0; rw [hone])
 obtain ⟨rv, hrv, rb, cp, rfl, hcp, hcp2, mrb, rc, rt, hrb, hrc⟩ := hrows 0 (by decide)
 have hro8 : roundsV [0, 3, 0] (1 : Nat) 2 (([9] : List Int).getD 0 0) 8 = [1, 1, 1, 1, 1, 1, 1, 1] := abreast_rounds
 rw [hro8] at hrv hcp hrc
 -- the rows of abreast's own
 have hrow : ∀ {b n cp' : Nat} {xs : List Int}, RowB n0 W (some ⟨b, 0, none⟩) cp' xs → (∀ m, (b, m) ∈ rowL (some ⟨b, 0, none⟩) xs.length → S b ∨ M b) → n0 ≤ b ∧ (∃ c t, W1.heap[b]? = some (.cells c t (0, 0))) ∧ (S b ∨ M b) := fun {b n cp' xs} hr hm => by
   obtain ⟨-, -, h3, c, t, h4, -⟩ := hr.2.2.2 _ rfl
   have hsm := hm xs.length (List.mem_singleton.2 rfl)
   exact ⟨h3, ⟨c, t, by rw [hrel.keep b (heap_lt h4) hsm]; exact h4⟩, hsm⟩
 obtain ⟨n1, ⟨c1, t1, e1⟩, s1⟩ := hrow (n := 0) hT.rw fun m q => hSM r1 (.inr ⟨m, by simp only [taskL, List.mem_cons, List.mem_append]; exact .inr (.inr (.inr (.inr (.inl q))))⟩)
 obtain ⟨n2, ⟨c2, t2, e2⟩, s2⟩ := hrow (n := 0) hT.rl fun m q => hSM r2 (.inr ⟨m, by simp only [taskL, List.mem_cons, List.mem_append]; exact .inr (.inr (.inr (.inr (.inr q))))⟩)
 have nrb : n0 ≤ rb := mrb.2
 generalize hL : [(Bo, 1), (rb, 8), (r1, 0), (r2, 0)] = L
 have mO : (Bo, 1) ∈ L := by rw [← hL]; simp
 have mB : (rb, 8) ∈ L := by rw [← hL]; simp
 have m1 : (r1, 0) ∈ L := by rw [← hL]; simp
 have m2 : (r2, 0) ∈ L := by rw [← hL]; simp
 have hl : ∀ b h, (b, h) ∈ L → n0 ≤ b ∧ ∃ c t, W1.heap[b]? = some (.cells c t (0, 0)) ∧ ∀ (i : Nat) (v : Value), i < h → c[i]? = some v → (footL A L).val (okFn goodS) v := by
   intro b h m
   rw [← hL] at m
   simp only [List.mem_cons, Prod.mk.injEq, List.not_mem_nil, or_false] at m
   rcases m with ⟨rfl, rfl⟩ | ⟨rfl, rfl⟩ | ⟨rfl, rfl⟩ | ⟨rfl, rfl⟩
   · refine ⟨nBo, _, _, hro, fun i v hi hv => ?_⟩
     obtain rfl : i = 0 := by omega
     rw [hrv] at hv
     cases hv
     exact val_slice _ _ (has_new hI1 mB nrb)
   · refine ⟨nrb, _, _, hrb, fun i v hi hv => ?_⟩
     rw [hrc i hi] at hv
     cases hv
     exact val_int _ _
   · exact ⟨n1, _, _, e1, fun i v hi => absurd hi (Nat.not_lt_zero _)⟩
   · exact ⟨n2, _, _, e2, fun i v hi => absurd hi (Nat.not_lt_zero _)⟩
 have hsub : ∀ b, (footL A L).has b → S b ∨ (M b ∨ N b) := fun b hb => by
   rcases has_sub hI1 hb with q | ⟨n, m⟩
   · exact (hS0 b q).imp (fun q => q) .inl
   · rw [← hL] at m
     simp only [List.mem_cons, Prod.mk.injEq, List.not_mem_nil, or_false] at m
     rcases m with ⟨rfl, -⟩ | ⟨rfl, -⟩ | ⟨rfl, -⟩ | ⟨rfl, -⟩
     · exact .inr mBo
     · exact .inr mrb.1
     · exact s1.imp (fun q => q) .inl
     · exact s2.imp (fun q => q) .inl
 have vo : (footL A L).val (okFn goodS) (.slice (some ⟨Bo, 0, none⟩) 1 1) := val_slice _ _ (has_new hI1 mO nBo)
 have v1 : (footL A L).val (okFn goodS) (.slice (some ⟨r1, 0, none⟩) 3 3) := val_slice _ _ (has_new hI1 m1 n1)
 have v2 : (footL A L).val (okFn goodS) (.slice (some ⟨r2, 0, none⟩) 1 1) := val_slice _ _ (has_new hI1 m2 n2)
 have vt : (footL A L).val (okFn goodS) (.tuple #[.slice (some ⟨Bo, 0, none⟩) 1 1, .nilIface]) := .tuple' ((VRs.one vo).push .nilIface)
 have hT2 : ∀ v ∈ (List.toArray (.bool false :: .slice (some ⟨Bo, 0, none⟩) 1 1 :: .nilIface :: .tuple #[.slice (some ⟨Bo, 0, none⟩) 1 1, .nilIface] :: .slice (some ⟨r1, 0, none⟩) 3 3 :: .slice (some ⟨r2, 0, none⟩) 1 1 :: .tuple #[.slice (some ⟨Bo, 0, none⟩) 1 1, .nilIface] :: .slice (some ⟨Bo, 0, none⟩) 1 1 :: .nilIface :: undef :: undef :: undef :: undef :: undef :: undef :: undef :: undef :: undef :: undef :: undef :: undef :: undef :: undef :: [])), (footL A L).val (okFn goodS) v := by
   intro v hv
   simp only [List.mem_toArray, List.mem_cons, List.not_mem_nil, or_false] at hv
   rcases hv with rfl | rfl | rfl | rfl | rfl | rfl | rfl | rfl | rfl | rfl | rfl | rfl | rfl | rfl | rfl | rfl | rfl | rfl | rfl | rfl | rfl | rfl | rfl <;> first | exact VR.undef | exact .bool _ | exact .nilIface | exact vo | exact v1 | exact v2 | exact vt
 have hmain : GoesW Tryd.prog true (fun _ => True) S Stop (G ((base 98).at ⟨(List.toArray (.bool false :: .slice (some ⟨Bo, 0, none⟩) 1 1 :: .nilIface :: .tuple #[.slice (some ⟨Bo, 0, none⟩) 1 1, .nilIface] :: .slice (some ⟨r1, 0, none⟩) 3 3 :: .slice (some ⟨r2, 0, none⟩) 1 1 :: .tuple #[.slice (some ⟨Bo, 0, none⟩) 1 1, .nilIface] :: .slice (some ⟨Bo, 0, none⟩) 1 1 :: .nilIface :: undef :: undef :: undef :: undef :: undef :: undef :: undef :: undef :: undef :: undef :: undef :: undef :: undef :: undef :: [])), []⟩ [.code restAb]) (C :: Cs)) W1 (fun b => M b ∨ N b) := by
   refine gw_lone (F := footL A L) (eq := true) (fr0 := (base 98).at ⟨(List.toArray (.bool false :: .slice (some ⟨Bo, 0, none⟩) 1 1 :: .nilIface :: .tuple #[.slice (some ⟨Bo, 0, none⟩) 1 1, .nilIface] :: .slice (some ⟨r1, 0, none⟩) 3 3 :: .slice (some ⟨r2, 0, none⟩) 1 1 :: .tuple #[.slice (some ⟨Bo, 0, none⟩) 1 1, .nilIface] :: .slice (some ⟨Bo, 0, none⟩) 1 1 :: .nilIface :: undef :: undef :: undef :: undef :: undef :: undef :: undef :: undef :: undef :: undef :: undef :: undef :: undef :: undef :: [])), []⟩ [.code restAb]) (Post := fun v _ => v = .bool true) goodP (fun _ => rfl) gl_has (foot_ok hI1 hl) hsub hM1 ?_ (fun τ => callsFrom_of_wp Tryd.func98 (ab_rest Bo rb cp { loneW (okFn goodS) (footL A L) W1 with tape := τ } ?_ ?_ _ _ _ _ _ _ _ _ _ _ _ _ _ _ _ _ _ _ _ _ _)) ?_
   · refine FrA.mk ⟨_, Tryd.func98⟩ (vals_refl hT2) (fun it hi => ?_) (.inl rfl)
     rw [List.mem_singleton.1 hi]
     kernel_rfl
   · exact foot_new hI1 mO nBo (by decide) (by rw [at_cell hro]; exact hrv)
   · refine ⟨rfl, hcp, hcp2, fun e => (by cases e), fun i hi => ⟨rb, 0, rfl, ?_⟩⟩
     rw [Nat.zero_add]
     exact foot_new hI1 mB nrb hi (by rw [at_cell hrb]; exact hrc i hi)
   · intro V v w ρ W2 N2 hv hr he hp hN2 hrel2 _
     subst hp
     cases hv
     have hS1 : ∀ b, b < n0 → S b ∨ (M b ∨ N b) := fun b q => (hS0 b q).imp (fun q => q) .inl
     exact hk W2 _ (below_rely hB1 hI1.size hrel2 hS1) (init_rely hI1 hrel2 hS1) (fun b q => (hS1 b q).imp (fun q => q) .inl) fun b q => q.elim (fun q => Nat.lt_of_lt_of_le (hM1 b q) hrel2.size) fun q => (hN2 b q).2
 unfold frB
 rw [Frame.finish_at]
 revert hmain
 generalize restAb = rr
 intro hmain
 simp only [rgB, bodyB, Tryd.f98, Option.getD_some]
 walk_nrm
 clear hT2 hl hsub hrows hrow hrc hz
 repeat (first
   | refine gw_seq ?_
   | refine gw_skip ?_
   | refine gw_block ?_
   | refine gw_loop ?_
   | refine gw_inLoop ?_
   | refine gw_inBlock ?_
   | refine gw_region_end ?_
   | refine gw_label ?_
   | refine gw_ret ?_
   | (refine gw_region ?_; simp only [List.size_toArray, List.length_cons, List.length_nil, Nat.reduceAdd, Nat.zero_add, List.range, List.range.loop])
   | refine gw_exit rfl ?_
   | refine gw_yes rfl ?_
   | refine gw_no rfl ?_
   | (refine gw_op rfl rfl (by k_ne) (fun wq rq iq Kq hKq => ?_)
      go_simp
      refine hKq _ ?_ ?_
      · intro eq heq
        have hmq := mem_listed heq
        simp [go_sem, *] at hmq
      clear hKq Kq rq iq wq
      try w_num)
   | (refine gw_unwanted rfl rfl ?_; walk_nrm)
   | (refine gw_defer rfl rfl (by k_ne) rfl ?_; walk_nrm))
 exact hmain
end
end Go.Proofs.YtajnfkmkombajabDoor
namespace Go.Proofs.YtajnfkmkombajabDoor
open Go Go.Conc Go.ConcN Go.RowKit Go.Conc.Lib Go.ConcR.Gen Go.ConcN.Gen
section
variable {P : Program}
theorem runN_seq : ∀ (n k : Nat) (m m' : Machine) (t t' : Trace), runNT P n m t = (.next m', t') → runNT P (n + k) m t = runNT P k m' t' ∧ runN P (n + k) m = runN P k m'
 | 0, k, m, m', t, t', h => by
   simp only [runNT, Prod.mk.injEq, Stepped.next.injEq] at h
   obtain ⟨rfl, rfl⟩ := h
   rw [Nat.zero_add]
   exact ⟨rfl, rfl⟩
 | n + 1, k, m, m', t, t', h => by
   cases hs : stepT P m with
   | mk e ops =>
     cases e with
     | next m1 =>
       have h1 : runNT P n m1 (t ++ ops) = (.next m', t') := by
         simp only [runNT, hs] at h
         exact h
       obtain ⟨e1, e2⟩ := runN_seq n k m1 m' (t ++ ops) t' h1
       have hst : step P m = .next m1 := by simp [step, hs]
       rw [show n + 1 + k = (n + k) + 1 by omega]
       constructor
       · rw [← e1]; simp only [runNT, hs]
       · rw [← e2]; simp only [runN, hst]
     | _ => simp [runNT, hs] at h
def RunEnds (P : Program) (Post : Value → World → Prop) (m : Machine) (t : Trace) : Prop :=
 ∃ N last o w' t', runNT P (N + 1) m t = (.ended o w', t') ∧ runN P N m = .next last ∧ step P last = .ended o w' ∧ Go.Conc.Good P Post last o w' t'
theorem RunEnds.back {Post : Value → World → Prop} {n : Nat} {m m' : Machine} {t t' : Trace} (h : runNT P n m t = (.next m', t')) (k : RunEnds P Post m' t') : RunEnds P Post m t := by
 obtain ⟨N, last, o, w', t2, h1, h2, h3, h4⟩ := k
 refine ⟨n + N, last, o, w', t2, ?_, ?_, h3, h4⟩
 · rw [show n + N + 1 = n + (N + 1) by omega, (runN_seq n (N + 1) m m' t t' h).1]; exact h1
 · rw [(runN_seq n N m m' t t' h).2]; exact h2
end
theorem stands_run {j : Nat} {Q Q' : (Nat → Prop) → Goroutine → World → (Nat → Prop) → Prop} {m : Machine} {t : Trace} (h : Stands j Q m t) (hR : ∀ S g w M, Q' S g w M → g.status = .running)
   (hg : ∀ S g W M, Q S g W M → (∀ b, M b → b < W.heap.size) → GoesW Tryd.prog true (fun _ => True) S (Q' S) g W M) : ∃ n m' t', runNT Tryd.prog n m t = (.next m', t') ∧ Stands j Q' m' t' := by
 obtain ⟨gs, w, sl, q, Own, Rd, Sp, a, rfl, ha, hc, hQ⟩ := h
 obtain ⟨μ, hinv⟩ := calm_again (sl := sl) ha trivial hc (hg _ _ _ _ hQ fun b hb => hc.lay.ownB 0 (Nat.zero_le _) b hb)
 obtain ⟨n, m', t', hrun, gs', w', sl', q', Own', a', rfl, ha', -, hst, hc', -⟩ := calm_runs (fun _ _ _ _ => trivial) (fun g w M => hR _ g w M) hinv
 exact ⟨n, _, t', hrun, gs', w', sl', q', Own', Rd, Sp, a', rfl, ha', hc', hst w' (RelyS.refl _ _ _) trivial⟩
theorem stands_ends {j : Nat} {Q : (Nat → Prop) → Goroutine → World → (Nat → Prop) → Prop} {Post : Value → World → Prop} {m : Machine} {t : Trace} (h : Stands j Q m t)
   (hg : ∀ S g W M, Q S g W M → (∀ b, M b → b < W.heap.size) → GoesW Tryd.prog true (fun _ => True) S (AtEnd' Tryd.prog S Post) g W M) : RunEnds Tryd.prog Post m t := by
 obtain ⟨gs, w, sl, q, Own, Rd, Sp, a, rfl, ha, hc, hQ⟩ := h
 obtain ⟨μ, hinv⟩ := calm_again (sl := sl) ha trivial hc (hg _ _ _ _ hQ fun b hb => hc.lay.ownB 0 (Nat.zero_le _) b hb)
 exact calm_ends (fun _ _ _ _ => trivial) hinv
section
variable {n0 : Nat} {A : Nat → Addr} {W0 : World} {aw av : Option Addr} {cw cv : Nat} {sd : Nat} {cy wk : Int} {zs ls : List Int}
def AtAll2 (n0 : Nat) (A : Nat → Addr) (W0 : World) (aw : Option Addr) (cw : Nat) (zs : List Int) (sd : Nat) (cy : Int) (av : Option Addr) (cv : Nat) (ls : List Int) (wk : Int) (S : Nat → Prop) (g : Goroutine) (W : World) (M : Nat → Prop) : Prop :=
 ∃ o1 c1 o2 c2, AtAll n0 A W0 o1 c1 zs sd cy o2 c2 ls wk [frS4 aw cw zs sd cy av cv ls wk o1 c1 o2 c2] S g W M
set_option maxRecDepth 100000 in
theorem side_machine {W : World} (hI : Init n0 A W) (hn0 : n0 = W.heap.size) (hg : Tryd.prog.globals.size ≤ n0) (hsd : sd < 18446744073709551616) (hw : ArgRow n0 W aw cw zs) (hv : ArgRow n0 W av cv ls) :
   RunEnds Tryd.prog (fun v w => v = .bool true ∧ Below n0 W w) (solo (G (Frame.enter Tryd.prog 12 #[.slice aw zs.length cw, .int .u64 sd, .int .i64 cy, .slice av ls.length cv, .int .i64 wk] .normal) []) W) #[] := by
 have hB0 : Below n0 W W := by rw [hn0]; exact Below.refl _ _
 have h0 : Stands 0 (fun S g W1 M => g = G (Frame.enter Tryd.prog 12 #[.slice aw zs.length cw, .int .u64 sd, .int .i64 cy, .slice av ls.length cv, .int .i64 wk] .normal) [] ∧ W1 = W ∧ ∀ b, b < n0 → S b ∨ M b) (solo (G (Frame.enter Tryd.prog 12 #[.slice aw zs.length cw, .int .u64 sd, .int .i64 cy, .slice av ls.length cv, .int .i64 wk] .normal) []) W) #[] :=
   ⟨#[_], W, none, fun _ => 0, fun k b => k = 0 ∧ False, fun k b => k = 0 ∧ b < n0, fun _ => False, _, rfl, rfl, calm_first (gs := #[]) (S := fun b => b < n0) (M := fun _ => False) (fun b hb => ⟨by omega, id⟩) (fun b q => q.elim), rfl, rfl, fun b hb => .inl ⟨rfl, hb⟩⟩
 -- to abreast's call of side.all
 obtain ⟨n1, m1, t1, r1, s1⟩ := stands_run (Q' := fun S g W1 M => AtAll1 n0 A W [frS1 aw zs.length cw sd cy av ls.length cv wk] S g W1 M) h0 (fun S g w M h => by obtain ⟨_, _, _, _, _, _, rfl, -⟩ := h; rfl) (fun S g W1 M h hM => by
   obtain ⟨rfl, rfl, hS⟩ := h
   exact side_front hI hB0 hS)
 refine RunEnds.back r1 ?_
 obtain ⟨ra, rb, s1'⟩ : ∃ ra rb, Stands 0 (AtAll n0 A W (some ⟨ra, 0, none⟩) 3 [0, 3, 0] 1 2 (some ⟨rb, 0, none⟩) 1 [9] ((1 + 1 : Nat) : Int) (frB ra rb :: [frS1 aw zs.length cw sd cy av ls.length cv wk])) m1 t1 := by
   obtain ⟨gs, w, sl, q, Own, Rd, Sp, a, rfl, ha, hc, ra, rb, hQ⟩ := s1
   exact ⟨ra, rb, gs, w, sl, q, Own, Rd, Sp, a, rfl, ha, hc, hQ⟩
 obtain ⟨n2, m2, t2, r2, s2⟩ := run_rights (r := 1) (by decide) (by decide) (by decide) s1'
 refine RunEnds.back r2 ?_
 by_cases hlong : 100 < zs.length ∨ 110 < ls.length
 · refine stands_ends s2 fun S g W1 M h hM => abreast_back h hM fun W2 M2 hB hI2 hS hM2 => ?_
   by_cases h1 : 100 < zs.length
   · exact side_long1 hB hI2.size hS (by simp; omega)
   · exact side_long2 hB hI2.size hS (by simp; omega) (by simp; omega)
 have d1 : decide ((100 : Int) < (zs.length : Int)) = false := by simp; omega
 have d2 : decide ((110 : Int) < (ls.length : Int)) = false := by simp; omega
 by_cases hwf : wfC wk (ls.length : Int) = 0
 rotate_left
 · refine stands_ends s2 fun S g W1 M h hM => abreast_back h hM fun W2 M2 hB hI2 hS hM2 => ?_
   refine side_short hI2 hB hS hM2 d1 d2 (hw.kept hB) (hv.kept hB) hg fun o1 c1 o2 c2 W3 M3 hMM hM3 q rw3 rl3 m1 m2 => ?_
   have hS3 : ∀ b, b < n0 → S b ∨ M3 b := fun b p => (hS b p).imp (fun p => p) (hMM b)
   have hI3 := init_rely hI2 q hS
   have hB3 := below_rely hB hI2.size q hS
   unfold frS4
   refine rights_err hI3 hS3 hwf fun W4 M4 hMM4 hM4 q4 => ?_
   have hS4 : ∀ b, b < n0 → S b ∨ M4 b := fun b p => (hS3 b p).imp (fun p => p) (hMM4 b)
   have hB4 := below_rely hB3 hI3.size q4 hS3
   exact side_end (init_rely hI3 q4 hS3) hB4 hS4 (fun b p => (hM4 b p).elim (fun p => Nat.lt_of_lt_of_le (hM3 b p) q4.size) fun p => p.2) hg (by omega) hsd (hw.kept hB4) (hv.kept hB4) (.inl ⟨hwf, rfl⟩)
 obtain ⟨w1, w2, w3⟩ : 1 ≤ wk ∧ wk ≤ 16 ∧ ls.length ≤ 100 := by
   unfold wfC at hwf
   split at hwf
   · cases hwf
   · split at hwf
     · cases hwf
     · omega
 obtain ⟨r, hr⟩ : ∃ r : Nat, wk = ((r + 1 : Nat) : Int) := ⟨(wk - 1).toNat, by omega⟩
 obtain ⟨n3, m3, t3, r3, s3⟩ := stands_run (Q' := fun S g W1 M => AtAll2 n0 A W aw cw zs sd cy av cv ls wk S g W1 M) s2 (fun S g w M h => by obtain ⟨_, _, _, _, _, _, _, _, rfl, -⟩ := h; rfl) (fun S g W1 M h hM => abreast_back h hM fun W2 M2 hB hI2 hS hM2 => by
   refine side_short hI2 hB hS hM2 d1 d2 (hw.kept hB) (hv.kept hB) hg fun o1 c1 o2 c2 W3 M3 hMM hM3 q rw3 rl3 m1 m2 => ?_
   have hS3 : ∀ b, b < n0 → S b ∨ M3 b := fun b p => (hS b p).imp (fun p => p) (hMM b)
   exact (rights_front (W0 := W) (init_rely hI2 q hS) (below_rely hB hI2.size q hS) hS3 (by simp; omega) (by simp; omega) (by simp; omega) rw3 rl3 (fun b n m => .inr (m1 b n m)) (fun b n m => .inr (m2 b n m))).mono fun g W M h _ => ⟨o1, c1, o2, c2, h⟩)
 refine RunEnds.back r3 ?_
 obtain ⟨o1, c1, o2, c2, s3'⟩ : ∃ o1 c1 o2 c2, Stands (0 + (1 + 1)) (AtAll n0 A W o1 c1 zs sd cy o2 c2 ls ((r + 1 : Nat) : Int) [frS4 aw cw zs sd cy av cv ls wk o1 c1 o2 c2]) m3 t3 := by
   obtain ⟨gs, w, sl, q, Own, Rd, Sp, a, rfl, ha, hc, o1, c1, o2, c2, hQ⟩ := s3
   rw [← hr]
   exact ⟨o1, c1, o2, c2, gs, w, sl, q, Own, Rd, Sp, a, rfl, ha, hc, hQ⟩
 obtain ⟨n4, m4, t4, r4, s4⟩ := run_rights hsd w3 (by omega) s3'
 refine RunEnds.back r4 (stands_ends s4 fun S g W1 M h hM => ?_)
 have h' := h
 obtain ⟨b5, b6, b7, b8, -, -, -, hB, hT, hSM, -⟩ := h'
 have hS0 : ∀ b, b < n0 → S b ∨ M b := fun b q => hSM b (.inl q)
 refine rights_back h hM (by omega) fun V W2 N hN q hV => ?_
 have hB2 := below_rely hB hT.ini.size q hS0
 exact side_end (init_rely hT.ini q hS0) hB2 (fun b p => (hS0 b p).imp (fun p => p) .inl) (fun b p => p.elim (fun p => Nat.lt_of_lt_of_le (hM b p) q.size) fun p => (hN b p).2) hg (by omega) hsd (hw.kept hB2) (hv.kept hB2) (.inr ⟨hwf, hV⟩)
end
end Go.Proofs.YtajnfkmkombajabDoor
namespace Go.Proofs.YtajnfkmkombajabDoor
open Go Go.Conc Go.RowKit Go.ChangeShapes
set_option maxRecDepth 100000 in
theorem sents_vars2 {W : World} (PS : List MemPlace) (hrows : ∀ b off, MemPlace.cell b off ∈ PS → (∃ c t, W.heap[b]? = some (.cells c t (0, 0))) ∧ ∀ u v, W.cell? ⟨b, off, none⟩ = some (.iface u v) → Value.okWide Tryd.prog W .any 0 u v) :
   ∀ (cs : List Nat) (l : List (String × DataW Unit)) (ps : List MemPlace), LaidAs cs l → DataW.LaidVars Tryd.prog W l ps → ps.Nodup → (∀ x ∈ ps, x ∈ PS) →
   ∃ A : Nat → Addr, (∀ c ∈ cs, W.cell? ⟨gE c, 0, none⟩ = some (ev A c)) ∧ (∀ c ∈ cs, MemPlace.cell (A c).block (A c).off ∈ ps) ∧ (∀ c ∈ cs, ∀ d ∈ cs, c ≠ d → A c ≠ A d) ∧ ∀ c ∈ cs, Value.okWide Tryd.prog W .any 0 273 (.pointer (some (A c)))
 | [], [], _, _, _, _, _ => ⟨fun _ => ⟨0, 0, none⟩, (fun c hc => by cases hc), (fun c hc => by cases hc), (fun c hc => by cases hc), fun c hc => by cases hc⟩
 | c :: cs, (n, d) :: r, ps, ⟨⟨h0, h1, h2, h3, text, h4⟩, hr⟩, hv, hnd, hsub => by
   obtain ⟨g, t, xs, fuel, p, q, e1, e2, e3, e4, hq, rfl⟩ := hv
   simp only at h4 h2
   subst h4
   obtain rfl := Option.some.inj (h2.symm.trans e1)
   obtain rfl := Option.some.inj (h3.symm.trans e2)
   obtain ⟨l0⟩ := xs
   have ok0 : ∀ u v, l0 = [.iface u v] → Value.okWide Tryd.prog W .any 0 u v := fun u v e => by
     subst e
     exact (hrows (gE c) 0 (hsub _ (by simp [MemPlace.row]))).2 u v (by simpa using World.var?_cell e1 e3 0)
   obtain ⟨a0, s0, rfl, hc0, hs0, hz0, rfl⟩ := errorString_of_trod Tryd.underlying33 Tryd.rowErr Tryd.underlying273 Tryd.underlying293 rfl rfl Tryd.underlying9 Tryd.cellsErr Tryd.cellsStr e4 ok0
   have hnq : q.Nodup := (List.nodup_append.1 hnd).2.1
   obtain ⟨A, hA1, hA2, hA3, hA4⟩ := sents_vars2 PS hrows cs r q hr hq hnq (fun x hx => hsub x (by simp [hx]))
   refine ⟨fun k => if k = c then a0 else A k, fun k hk => ?_, fun k hk => ?_, fun k hk j hj hkj => ?_, fun k hk => ?_⟩
   · by_cases hkc : k = c
     · subst hkc
       have := World.var?_cell e1 e3 0
       rw [ev_some _ h0]
       simpa using this
     · have hk' : k ∈ cs := by simpa [hkc] using hk
       have := hA1 k hk'
       rw [this]; simp [ev, hkc]
   · by_cases hkc : k = c
     · subst hkc; simp only [if_true]; exact List.mem_append_left _ (by simp [MemPlace.row])
     · simp only [if_neg hkc]; exact List.mem_append_right _ (hA2 k (by simpa [hkc] using hk))
   · have far : ∀ m ∈ cs, A m ≠ a0 := by
       intro m hm e
       have h1 := hA2 m hm
       rw [e] at h1
       exact (List.nodup_append.1 hnd).2.2 _ (by simp [MemPlace.row]) _ h1 rfl
     by_cases hkc : k = c
     · have hjc : j ≠ c := fun e => hkj (by rw [hkc, e])
       simp only [if_pos hkc, if_neg hjc]
       exact fun e => far j (by simpa [hjc] using hj) e.symm
     · by_cases hjc : j = c
       · simp only [if_neg hkc, if_pos hjc]
         exact far k (by simpa [hkc] using hk)
       · simp only [if_neg hkc, if_neg hjc]
         exact hA3 k (by simpa [hkc] using hk) j (by simpa [hjc] using hj) hkj
   · by_cases hkc : k = c
     · simp only [if_pos hkc]
       refine (hrows (gE c) 0 (hsub _ (by simp [MemPlace.row]))).2 _ _ ?_
       have := World.var?_cell e1 e3 0
       simpa using this
     · simp only [if_neg hkc]
       exact hA4 k (by simpa [hkc] using hk)
 | [], _ :: _, _, h, _, _, _ => h.elim
 | _ :: _, [], _, h, _, _, _ => h.elim
set_option maxRecDepth 100000 in
theorem sents_of_laid2 {W : World} {L : List (String × DataW Unit)} (hL : laidMetH Tryd.prog L W) (h1 : LaidAs [1, 2, 3, 4, 5, 6, 7, 8, 9, 10] (L.filter fun x => x.2.handleName?.isNone))
   (h2 : ("errors.errorType", DataW.iface "internal/reflectlite.rtype" (.agg [.ptr (.lit (.string errorName))])) ∈ L) (h3 : Tryd.prog.globalNamed "errors.errorType" = some 10) : ∃ A, Sents A W ∧ (∀ c, 1 ≤ c → c ≤ 10 → ∃ cs t, W.heap[(A c).block]? = some (.cells cs t (0, 0))) ∧ ∀ c, 1 ≤ c → c ≤ 10 → Value.okWide Tryd.prog W .any 0 273 (.pointer (some (A c))) := by
 obtain ⟨hm, hh⟩ := laidMetH_iff.1 hL
 obtain ⟨ps, hv, hnd, hrows⟩ := hm
 obtain ⟨A, a1, a2, a3, a4⟩ := sents_vars2 ps hrows _ _ ps h1 hv hnd (fun x hx => hx)
 refine ⟨A, ⟨⟨a1⟩, ?_, fun c c1 c2 => ?_, fun c d c1 c2 d1 d2 hcd => a3 c (by simp; omega) d (by simp; omega) hcd⟩, fun c c1 c2 => (hrows _ _ (a2 c (by simp; omega))).1, fun c c1 c2 => a4 c (by simp; omega)⟩
 · have := hh _ (List.mem_filter.2 ⟨h2, by rfl⟩)
   have hf : (DataW.iface (H := Unit) "internal/reflectlite.rtype" (.agg [.ptr (.lit (.string errorName))])).funcsIn? = none := by kernel_rfl
   rw [show (("errors.errorType", DataW.iface (H := Unit) "internal/reflectlite.rtype" (.agg [.ptr (.lit (.string errorName))])) : String × DataW Unit).2.funcsIn? = none from hf] at this
   obtain ⟨name, u, ty, e1, e2, e3, e4, e5⟩ := this
   have hn : name = errorName := by
     have h0 : (DataW.iface (H := Unit) "internal/reflectlite.rtype" (.agg [.ptr (.lit (.string errorName))])).handleName? = some errorName := by kernel_rfl
     exact Option.some.inj (e1.symm.trans h0)
   subst hn
   rw [rtype_at] at e2
   obtain rfl := Option.some.inj e2
   have hty : ty = 33 := by
     have := List.all_eq_true.1 only_error ty (List.mem_range.2 e3)
     rw [e4] at this
     simpa using this
   subst hty
   have := World.var?_cell h3 e5 0
   unfold ErrType
   simpa [typeHandle, globals_size] using this
 · obtain ⟨cs, t, hc⟩ := (hrows _ _ (a2 c (by simp; omega))).1
   exact ⟨cs, t, hc⟩
noncomputable def plainT (t : TypeId) : Bool := !sameLayout Tryd.prog Tryd.prog.depth t 293 && (match Tryd.prog.underlying t with | some (.struct _) | some (.array _ _) => false | _ => true)
theorem rowAt_plain {fits : TypeId → Bool} {t : TypeId} (h1 : fits t = false) (h2 : (match Tryd.prog.underlying t with | some (.struct _) | some (.array _ _) => false | _ => true) = true) (d count off n : Nat) : rowAt Tryd.prog fits d t count off n = false := by
 cases d with
 | zero => rfl
 | succ d =>
   unfold rowAt
   simp only [h1, Bool.and_false, Bool.false_or]
   split
   · rfl
   · split
     · next e => rw [e] at h2; cases h2
     · next e => rw [e] at h2; cases h2
     · simp
theorem lies_plain {t : TypeId} (h : plainT t = true) (count off n : Nat) : liesAt Tryd.prog Tryd.prog.depth t count off 293 n = false := by
 unfold plainT at h
 simp only [Bool.and_eq_true, Bool.not_eq_true'] at h
 cases hd : Tryd.prog.depth with
 | zero => rfl
 | succ d =>
   unfold liesAt
   rw [rowAt_plain (fits := (sameLayout Tryd.prog Tryd.prog.depth · 293)) h.1 h.2, Tryd.underlying293]
   rfl
def stillO : Option Obj → Bool
 | some (.cells _ _ f) => f == (0, 0)
 | _ => false
noncomputable def startW : World := (begin Tryd.prog (fun _ _ => 0) default).world
noncomputable def globB : Bool := (List.range 11).all fun g => decide (g < Tryd.prog.globals.size) && (match (startW.heap[g]?).bind Obj.row? with | some (_, t) => plainT t | none => false)
set_option maxRecDepth 100000 in
theorem glob_ok : globB = true := by kernel_rfl
set_option maxRecDepth 100000 in
theorem tok_ok : stillO (startW.heap[13]?) = true := by kernel_rfl
set_option maxRecDepth 100000 in
theorem start_size : 13 < startW.heap.size := of_decide_eq_true (by kernel_rfl)
set_option maxRecDepth 100000 in
theorem init_of {W : World} {A : Nat → Addr} (hsh : World.ShapedOpen Tryd.prog W) (hS : Sents A W) (hb : ∀ c, 1 ≤ c → c ≤ 10 → ∃ cs t, W.heap[(A c).block]? = some (.cells cs t (0, 0))) (ho : ∀ c, 1 ≤ c → c ≤ 10 → Value.okWide Tryd.prog W .any 0 273 (.pointer (some (A c)))) : Init W.heap.size A W := by
 obtain ⟨hg, hk⟩ := hsh
 have glo : ∀ g, g < 11 → ∃ cs t, plainT t = true ∧ W.heap[g]? = some (.cells cs t (0, 0)) := fun g h => by
   have := List.all_eq_true.1 glob_ok g (List.mem_range.2 h)
   simp only [Bool.and_eq_true, decide_eq_true_eq] at this
   obtain ⟨h1, h2⟩ := this
   cases hq : (startW.heap[g]?).bind Obj.row? with
   | none => rw [hq] at h2; cases h2
   | some q =>
     obtain ⟨zero, t⟩ := q
     rw [hq] at h2
     obtain ⟨cs, e, -⟩ := hg g zero t h1 hq
     exact ⟨cs, t, h2, e⟩
 have tok : ∃ cs t, W.heap[13]? = some (.cells cs t (0, 0)) := by
   obtain ⟨o, o₀, e1, e2, e3⟩ := hk 13 (Nat.le_of_eq globals_size) start_size
   have h := tok_ok
   have e2' : startW.heap[13]? = some o₀ := e2
   rw [e2'] at h
   rw [if_neg (by rw [globals_size]; decide)] at e3
   subst e3
   cases o with
   | cells cs t f =>
     have : f = (0, 0) := by simpa [stillO] using h
     subst this
     exact ⟨cs, t, e1⟩
   | _ => cases h
 have lt : ∀ {b : Nat} {o : Obj}, W.heap[b]? = some o → b < W.heap.size := fun h => (Array.getElem?_eq_some_iff.1 h).1
 refine ⟨hS, fun c h1 h2 => ?_, fun g h => ?_, tok, ?_, Nat.le_refl _⟩
 · obtain ⟨cs, t, e⟩ := hb c h1 h2
   refine ⟨lt e, Nat.le_of_not_lt fun q => ?_, cs, t, e⟩
   obtain ⟨cs', t', hp, e'⟩ := glo _ q
   rw [e] at e'
   cases e'
   have hw := ho c h1 h2
   unfold Value.okWide at hw
   rw [Tryd.underlying273] at hw
   simp only at hw
   unfold Cell.okWide at hw
   rw [Tryd.underlying273] at hw
   simp only at hw
   unfold Cell.ok at hw
   rw [Tryd.underlying273] at hw
   simp only at hw
   obtain ⟨-, -, row, cells, hs, hl⟩ := hw
   unfold World.shape? at hs
   rw [e] at hs
   simp only [Option.some.injEq, Prod.mk.injEq] at hs
   obtain ⟨rfl, rfl⟩ := hs
   rw [lies_plain hp] at hl
   cases hl
 · obtain ⟨cs, t, -, e⟩ := glo g h
   exact ⟨cs, t, e⟩
 · obtain ⟨cs, t, e⟩ := tok
   exact lt e
set_option maxRecDepth 100000 in
theorem blk_of_okWide {W : World} {base : Nat} {a : Addr} {n m : Nat} (h : Value.okWide Tryd.prog W .any base 51 (.slice (some a) n m)) : ∃ c t f, W.heap[a.block]? = some (.cells c t f) := by
 unfold Value.okWide at h
 rw [Tryd.underlying51] at h
 simp only at h
 unfold Cell.okWide at h
 rw [Tryd.underlying51] at h
 simp only at h
 unfold Cell.ok at h
 rw [Tryd.underlying51] at h
 simp only at h
 obtain ⟨-, -, -, -, row, cells, hs, -⟩ := h
 unfold World.shape? at hs
 split at hs
 · next c t f e => exact ⟨c, t, f, e⟩
 · cases hs
end Go.Proofs.YtajnfkmkombajabDoor
namespace Go.Proofs.YtajnfkmkombajabDoor
open Go Go.Conc
section
variable {H : Type} {enc : TypeId × Value → H}
theorem leaving_of_change_and {a : Assume} {C : Checked} {os : Os} {f : FuncId} {fn : Func} {s : ChangeSpec} {conds : List PathCond} {apart fresh handsOn again : Bool} {X : World → Array Value → Prop}
   (hX : ∀ (w w' : World) (args : Array Value), w.heap = w'.heap → X w args → X w' args)
   (own : ownKnob C.prog.godebug = none) (started : os.Started) (hfn : C.prog.funcs[f]? = some fn)
   (witness : ∃ (w : World) (tape : Tape) (i : Input), w.os = os ∧ (w.forCall tape i).Shaped C.prog ∧ i.vars = [] ∧ Input.okWide C.prog (w.forCall tape i) .any w.heap.size f i ∧
     ((s.pre enc C.prog fn conds apart (w.forCall tape i).memory i.args ∧ X (w.forCall tape i).memory i.args) ∧ sizedMet enc C.prog fn (OpenSpec.ofChange s) apart (w.forCall tape i).memory i.args) ∧ a.holds C.prog (lone (Frame.enter C.prog f i.args .normal) [] (w.forCall tape i)))
   (runs : ∀ (W : World) (base : Nat) (args : Array Value) (ds gs : List (DataW H)) (before : List MemPlace),
     World.ShapedOpen C.prog W →
     (∀ (j : Nat) t v, fn.params[j]? = some t → args[j]? = some v → Value.okWide C.prog W .any base t v) →
     DataW.Whole enc C.prog fn.params.toList s.vars apart W args.toList ds gs before →
     conds.all (PathCond.test C.prog ⟨fn.params.toList, ds, s.plain.varTypes C.prog, gs⟩) = true →
     (DataW.weightsEach C.prog (fn.params.toList ++ s.plain.varTypes C.prog) (ds ++ gs)).all (· ≤ reachBytes) = true → X W args →
     a.holds C.prog (lone (Frame.enter C.prog f args .normal) [] W) →
     ∃ M last o w' t', runNT C.prog (M + 1) (solo (G (Frame.enter C.prog f args .normal) []) W) #[] = (.ended o w', t') ∧ runN C.prog M (solo (G (Frame.enter C.prog f args .normal) []) W) = .next last ∧
       step C.prog last = .ended o w' ∧ Go.Conc.Good C.prog (fun v W' => s.post enc C.prog fn apart fresh handsOn again W args v W') last o w' t') :
   ReturnsInLeavingWide a C os f .any (fun w args => (s.pre enc C.prog fn conds apart w args ∧ X w args) ∧ sizedMet enc C.prog fn (OpenSpec.ofChange s) apart w args) (s.post enc C.prog fn apart fresh handsOn again) := by
 refine returnsInLeavingWide_of_good own started witness ?_
 intro w tape i _ hsh _ hok hpre hholds
 obtain ⟨_, _, _, fn', hfn', _, _, _, _, hval⟩ := hok
 have e : fn' = fn := Option.some.inj (hfn'.symm.trans hfn)
 subst e
 obtain ⟨⟨⟨ds, gs, before, hw, hc⟩, hx⟩, hz⟩ := hpre
 have hw' := DataW.Whole.of_heap (w' := w.forCall tape i) (by rfl) hw
 obtain ⟨M, last, o, w', t', h1, h2, h3, h4⟩ := runs (w.forCall tape i) w.heap.size i.args ds gs before hsh hval hw' hc (hz.weights hw) (hX _ _ _ (by rfl) hx) hholds
 exact ⟨M, last, o, w', t', h1, h2, h3, h4.mono fun v hp => ChangeSpec.post_blind hp⟩
end
end Go.Proofs.YtajnfkmkombajabDoor
