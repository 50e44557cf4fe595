/-
  From the call of side.all, alone or beside leavers, on every tape, to behind it.
  side.Rights behind its workers, in company: back into its caller's frame.
  Contracts of the laws' coded and faulted (package bakehouselaw3).
  Contract of faulted (package bakehouselaw3).
-/
import Derived.Test.YtajnfkmkombajabDoorQSD29
import Derived.Test.YtajnfkmkombajabDoorQSD22
import Derived.Test.YtajnfkmkombajabDoorQSD24
set_option linter.unusedVariables false
set_option linter.unusedSimpArgs false
namespace Go.Proofs.YtajnfkmkombajabDoor
open Go Go.Conc Go.ConcN Go.RowKit Go.Conc.Lib Go.ConcR.Gen Go.ConcN.Gen
open Go.ConcR (KK wgBlock WgAt stA smA)
section
variable {n0 : Nat} {A : Nat → Addr} {W0 : World} {ao : Option Addr} {cap : Nat} {zs : List Int} {s : Nat} {c : Int} {al : Option Addr} {capl : Nat} {ls : List Int} {wk : Int} {b5 b6 b7 b8 : Nat}
def hcR (b5 b6 b7 b8 : Nat) : Array Value := #[.pointer (some ⟨b5, 0, none⟩), .pointer (some ⟨b6, 0, none⟩), .pointer (some ⟨b7, 0, none⟩), .pointer (some ⟨b8, 0, none⟩)]
noncomputable def actR (ao : Option Addr) (cap : Nat) (zs : List Int) (s : Nat) (c : Int) (al : Option Addr) (capl : Nat) (ls : List Int) (wk : Int) (b5 b6 b7 b8 : Nat) : Act := ⟨(frR ao cap zs s c al capl ls wk b5 b6 b7 b8).tmps, []⟩
def kR (n0 : Nat) (A : Nat → Addr) (W0 : World) (ao : Option Addr) (cap : Nat) (zs : List Int) (s : Nat) (c : Int) (al : Option Addr) (capl : Nat) (ls : List Int) (b5 b6 b7 b8 : Nat) (W : World) : Prop := Below n0 W0 W ∧ TaskW n0 A ao cap zs s c al capl ls b5 b6 b7 b8 W
noncomputable def mkR (n0 : Nat) (A : Nat → Addr) (W0 : World) (ao : Option Addr) (cap : Nat) (zs : List Int) (s : Nat) (c : Int) (al : Option Addr) (capl : Nat) (ls : List Int) (wk : Int) (b5 b6 b7 b8 : Nat) (Cs : List Frame) (Wg Td Bk x8 x9 Bh : Nat) : Farm Tryd.prog :=
 mkA 139 (hcR b5 b6 b7 b8) (ResT n0 A zs s c ls Wg Td) (taskS n0 ao zs.length al ls.length b5 b6 b7 b8) (fun _ => False) (kR n0 A W0 ao cap zs s c al capl ls b5 b6 b7 b8) (TaskW n0 A ao cap zs s c al capl ls b5 b6 b7 b8) ls.length (base 99) (actR ao cap zs s c al capl ls wk b5 b6 b7 b8) rgR4 4 [5, 6, 7, 8, 9] [.code restR] Cs Wg Td Bk x8 x9 Bh
theorem kR_rely {W W1 : World} {M : Nat → Prop} (h : kR n0 A W0 ao cap zs s c al capl ls b5 b6 b7 b8 W) (r : RelyS (taskS n0 ao zs.length al ls.length b5 b6 b7 b8) M W W1) : kR n0 A W0 ao cap zs s c al capl ls b5 b6 b7 b8 W1 :=
 ⟨below_rely h.1 h.2.ini.size r fun b hb => .inl (.inl hb), h.2.rely r⟩
theorem cfR {Cs : List Frame} (hs : s < 18446744073709551616) (hls : ls.length < 1000000) (Wg Td Bk x8 x9 Bh : Nat) : CfLaw (mkR n0 A W0 ao cap zs s c al capl ls wk b5 b6 b7 b8 Cs Wg Td Bk x8 x9 Bh) 139 (hcR b5 b6 b7 b8) (ResT n0 A zs s c ls Wg Td) (taskS n0 ao zs.length al ls.length b5 b6 b7 b8) (kR n0 A W0 ao cap zs s c al capl ls b5 b6 b7 b8) (TaskW n0 A ao cap zs s c al capl ls b5 b6 b7 b8) where
 ty := rfl
 hk := fun W W1 r h => kR_rely h r
 hj := fun W W1 r h => h.rely r
 job := fun S W hS hlo hJ => task_job hJ hs hls hS hlo rfl
 stays := fun i out err W W1 M h r => h.stays r
 resW := fun i out err W M h => ⟨h.1, h.2.1⟩
theorem kR_low (W : World) (b : Nat) (h : kR n0 A W0 ao cap zs s c al capl ls b5 b6 b7 b8 W) (hb : taskS n0 ao zs.length al ls.length b5 b6 b7 b8 b) : b < W.heap.size := h.2.lt hb
def Back (n0 : Nat) (A : Nat → Addr) (W0 : World) (ao : Option Addr) (cap : Nat) (zs : List Int) (s : Nat) (c : Int) (al : Option Addr) (capl : Nat) (ls : List Int) (wk : Int) (Cs : List Frame) (S : Nat → Prop) (g : Goroutine) (W : World) (M : Nat → Prop) : Prop :=
 ∃ b5 b6 b7 b8 Bo Be, g = G ((base 99).at ((actR ao cap zs s c al capl ls wk b5 b6 b7 b8).put (some 30) (.tuple #[.slice (some ⟨Bo, 0, none⟩) ls.length ls.length, .slice (some ⟨Be, 0, none⟩) ls.length ls.length])) [.inRegion rgR4 [5, 6, 7, 8, 9], .code restR]) Cs ∧
   Below n0 W0 W ∧ TaskW n0 A ao cap zs s c al capl ls b5 b6 b7 b8 W ∧ (∀ b, taskS n0 ao zs.length al ls.length b5 b6 b7 b8 b → S b ∨ M b) ∧ M Bo ∧ M Be ∧ n0 ≤ Bo ∧ n0 ≤ Be ∧
   ∃ ro re : Array Value, ro.size = ls.length ∧ re.size = ls.length ∧ W.heap[Bo]? = some (.cells ro 51 (0, 0)) ∧ W.heap[Be]? = some (.cells re 33 (0, 0)) ∧
     ∀ i, i < ls.length → ∃ (Wg Td : Nat) (Mi : Nat → Prop) (o : Option Addr) (k m : Nat) (err : Value), (∀ b, Mi b → M b ∧ b ≠ Bo ∧ b ≠ Be) ∧ ro[i]? = some (.slice o k m) ∧ re[i]? = some err ∧ ResT n0 A zs s c ls Wg Td i (.slice o k m) err W Mi
def Stands (j : Nat) (Q : (Nat → Prop) → Goroutine → World → (Nat → Prop) → Prop) (m : Machine) (t : Trace) : Prop :=
 ∃ (gs : Array Goroutine) (w : World) (sl : Option (Nat × Nat)) (q : Nat → Nat) (Own Rd : Nat → Nat → Prop) (Sp : Nat → Prop) (a : Goroutine), m = crowd gs w sl ∧ gs[0]? = some a ∧ Calm Tryd.prog j gs w t q Own Rd Sp ∧ Q (Rd 0) a w (Own 0)
set_option maxRecDepth 100000 in
set_option maxHeartbeats 4000000 in
theorem run_rights {Cs : List Frame} {j r : Nat} {m : Machine} {t : Trace} (hs : s < 18446744073709551616) (hls : ls.length ≤ 100) (hj : j + r + 1 < 2147483648)
   (h : Stands j (AtAll n0 A W0 ao cap zs s c al capl ls ((r + 1 : Nat) : Int) Cs) m t) :
   ∃ n m' t', runNT Tryd.prog n m t = (.next m', t') ∧ Stands (j + (r + 1)) (Back n0 A W0 ao cap zs s c al capl ls ((r + 1 : Nat) : Int) Cs) m' t' := by
 obtain ⟨gs, w, sl, q, Own, Rd, Sp, a, rfl, ha, hc, b5, b6, b7, b8, rfl, hB, hT, hL⟩ := h
 have hcf := fun Wg Td Bk x8 x9 Bh => cfR (n0 := n0) (A := A) (W0 := W0) (ao := ao) (cap := cap) (zs := zs) (s := s) (c := c) (al := al) (capl := capl) (ls := ls) (wk := ((r + 1 : Nat) : Int)) (b5 := b5) (b6 := b6) (b7 := b7) (b8 := b8) (Cs := Cs) hs (by omega) Wg Td Bk x8 x9 Bh
 have hg : Stg (fun _ => True) (Rd 0) (Stop2 (mkR n0 A W0 ao cap zs s c al capl ls ((r + 1 : Nat) : Int) b5 b6 b7 b8 Cs) (r + 1) (Rd 0)) [] (G (frR ao cap zs s c al capl ls ((r + 1 : Nat) : Int) b5 b6 b7 b8) Cs) w (Own 0) := by
   have he := enterA (I := fun _ => True) (mk := mkR n0 A W0 ao cap zs s c al capl ls ((r + 1 : Nat) : Int) b5 b6 b7 b8 Cs) (w := r + 1) (S := Rd 0) (M := Own 0) (W := w) (fun Wg Td Bk x8 x9 Bh => farmA (hcf Wg Td Bk x8 x9 Bh) kR_low) (by omega) (by omega) (fun b hb => hc.lay.ownB 0 (Nat.zero_le _) b hb) (fun b q => q.elim) (fun b hb => hc.lay.rdB 0 (Nat.zero_le _) b hb) (fun b hb => (hL b hb).imp (fun q => q) fun q => ⟨q, id⟩) ⟨hB, hT⟩ hT rfl
   unfold Stg at he ⊢
   unfold frR
   exact gw_callE rfl rfl (by k_ne) rfl Tryd.func138 (by kernel_rfl) rfl (by walk_nrm; rfl) he
 obtain ⟨n, m', t', hrun, gs', w', sl', q', Own', Rd', Sp', a', Wg, Td, Bk, x8, x9, Bh, rfl, ha', ⟨Bo, Be, rfl, hLf⟩, hc', -⟩ := calm_all (I := fun _ => True) (mk := mkR n0 A W0 ao cap zs s c al capl ls ((r + 1 : Nat) : Int) b5 b6 b7 b8 Cs) (j := j) (r := r) (sl := sl) (fun _ _ _ _ => trivial) (fun Wg Td Bk x8 x9 Bh => ⟨rfl, rfl, rfl, rfl⟩)
   (fun Wg Td Bk x8 x9 Bh hne => lawA (hcf Wg Td Bk x8 x9 Bh) kR_low hne (by omega) ⟨_, _, Tryd.func139, by kernel_rfl, rfl⟩) (fun Wg Td Bk x8 x9 Bh S g w M h => by obtain ⟨Bo, Be, rfl, -⟩ := h; rfl) hj ha trivial hc hg
 refine ⟨n, _, t', hrun, gs', w', sl', q', Own', Rd', Sp', _, rfl, ha', hc', b5, b6, b7, b8, Bo, Be, rfl, hLf.cf.k.1, hLf.cf.k.2, fun b hb => (hLf.cf.s0 b hb).imp (fun q => q) And.left, hLf.mo, hLf.me, ?_, ?_, ?_⟩
 · exact Nat.le_of_not_lt fun q => (hLf.so Bo (.inl (.inl q))).1 rfl
 · exact Nat.le_of_not_lt fun q => (hLf.so Be (.inl (.inl q))).2 rfl
 · obtain ⟨ro, re, h1, h2, h3, h4, h5⟩ := hLf.rows
   refine ⟨ro, re, h1, h2, h3, h4, fun i hi => ?_⟩
   obtain ⟨Mi, o, k, m, err, q1, q2, q3, -, q5⟩ := h5 i hi
   exact ⟨Wg, Td, Mi, o, k, m, err, fun b q => ⟨(q1 b q).1, (q1 b q).2.1, (q1 b q).2.2.1⟩, q2, q3, q5⟩
end
end Go.Proofs.YtajnfkmkombajabDoor
namespace Go.Proofs.YtajnfkmkombajabDoor
open Go Go.Conc Go.ConcN Go.RowKit Go.Conc.Lib Go.ConcR.Gen Go.ConcN.Gen
section
variable {n0 : Nat} {A : Nat → Addr} {W0 : World} {ao : Option Addr} {cap : Nat} {zs : List Int} {s : Nat} {c : Int} {al : Option Addr} {capl : Nat} {ls : List Int} {wk : Int} {b5 b6 b7 b8 : Nat}
def RightsM (n0 : Nat) (A : Nat → Addr) (zs : List Int) (s : Nat) (c : Int) (ls : List Int) (V : Value) (W : World) (M : Nat → Prop) : Prop :=
 ((∀ i, i < ls.length → (bakerF zs c (ls.getD i 0) 0).1 = 0) ∧ ∃ Bo ro t, V = .tuple #[.slice (some ⟨Bo, 0, none⟩) ls.length ls.length, .nilIface] ∧ M Bo ∧ n0 ≤ Bo ∧ ro.size = ls.length ∧ W.heap[Bo]? = some (.cells ro t (0, 0)) ∧
     ∀ i, i < ls.length → ∃ v, ro[i]? = some v ∧ RowM (fun b => M b ∧ n0 ≤ b) W v (roundsV zs s c (ls.getD i 0) 8)) ∨
   ∃ i, i < ls.length ∧ (∀ j, j < i → (bakerF zs c (ls.getD j 0) 0).1 = 0) ∧ (bakerF zs c (ls.getD i 0) 0).1 ≠ 0 ∧ ∃ x, V = .tuple #[.slice none 0 0, x] ∧ ErrM A (fun b => M b ∧ n0 ≤ b) W x ((bakerF zs c (ls.getD i 0) 0).1, (i : Int))
def errB (n0 : Nat) : Option Value → List (Nat × Nat)
 | some (.iface _ (.pointer (some a))) => if n0 ≤ a.block then [(a.block, 2)] else []
 | _ => []
theorem errB_mem {n0 : Nat} {v : Option Value} {b h : Nat} (m : (b, h) ∈ errB n0 v) : ∃ t a, v = some (.iface t (.pointer (some a))) ∧ n0 ≤ a.block ∧ b = a.block ∧ h = 2 := by
 unfold errB at m
 split at m
 · split at m
   · next q =>
     have : (b, h) = (_, 2) := List.mem_singleton.1 m
     cases this
     exact ⟨_, _, rfl, q, rfl, rfl⟩
   · cases m
 · cases m
def restL (n0 : Nat) (Be Bo n : Nat) (L : List (Nat × Nat)) (re : Array Value) : List (Nat × Nat) := (Be, n) :: (Bo, 0) :: (L.map (fun p => (p.1, 0)) ++ (List.range n).flatMap fun i => errB n0 re[i]?)
theorem vr_slice_old {P : Program} {ok : Fn → Prop} {F : Foot} {ρ : Rho} (e : Ext P F.rho ρ) {a : Addr} {n m : Nat} {V : Value} (hF : F.has a.block) (h : VR ok ρ (.slice (some a) n m) V) : V = .slice (some a) n m := by
 cases h with
 | slice _ _ h =>
   obtain ⟨B, hB, rfl⟩ := h
   have := e.fn _ _ _ hB (e.le _ _ ⟨rfl, hF⟩)
   subst this
   rfl
theorem body_mono {P : Program} {fn : Func} {R R' : Ending → World → Prop} (h : ∀ e w, R e w → R' e w) {e : Exit} {a : Act} {w : World} (hq : bodyPost P fn R e a w) : bodyPost P fn R' e a w := by
 cases e with
 | normal => exact ⟨hq.1, hq.2.choose, hq.2.choose_spec.1, h _ _ hq.2.choose_spec.2⟩
 | ret => exact ⟨hq.1, hq.2.choose, hq.2.choose_spec.1, h _ _ hq.2.choose_spec.2⟩
 | panic chain => exact ⟨hq.1, h _ _ hq.2⟩
 | exit id => exact hq
 | goto l => exact hq
 | outgrown => exact h _ _ hq
def PostR (A : Nat → Addr) (n : Nat) (outv : Value) (Fs : Nat → Nat × Int) (m : Nat) (v : Value) (w' : World) : Prop := ∃ w0 : World, w0.heap.size = m ∧ RestPost A n outv Fs w0 v w'
set_option maxRecDepth 100000 in
set_option maxHeartbeats 8000000 in
theorem rights_back {S M : Nat → Prop} {W : World} {g : Goroutine} {C : Frame} {Cs : List Frame} {Stop : Goroutine → World → (Nat → Prop) → Prop} (h : Back n0 A W0 ao cap zs s c al capl ls wk (C :: Cs) S g W M) (hM : ∀ b, M b → b < W.heap.size) (hls : ls.length < 1000000)
   (hk : ∀ (V : Value) (W1 : World) (N : Nat → Prop), (∀ b, N b → W.heap.size ≤ b ∧ b < W1.heap.size) → RelyS S M W W1 → RightsM n0 A zs s c ls V W1 (fun b => M b ∨ N b) → GoesW Tryd.prog true (fun _ => True) S Stop (G (C.finish V) Cs) W1 (fun b => M b ∨ N b)) :
   GoesW Tryd.prog true (fun _ => True) S Stop g W M := by
 obtain ⟨b5, b6, b7, b8, Bo, Be, rfl, hB, hT, hSM, mBo, mBe, nBo, nBe, ro, re, zro, zre, hro, hre, hres⟩ := h
 have hI := hT.ini
 -- the footprint
 generalize hL : restL n0 Be Bo ls.length (taskL ao zs.length al ls.length b5 b6 b7 b8) re = L
 have mE : (Be, ls.length) ∈ L := by rw [← hL]; simp [restL]
 have mO : (Bo, 0) ∈ L := by rw [← hL]; simp [restL]
 have mT : ∀ {b n}, (b, n) ∈ taskL ao zs.length al ls.length b5 b6 b7 b8 → (b, 0) ∈ L := fun {b n} m => by
   rw [← hL]
   simp only [restL, List.mem_cons, List.mem_append, List.mem_map]
   exact .inr (.inr (.inl ⟨_, m, rfl⟩))
 have mG : ∀ {i : Nat} {t : TypeId} {a : Addr}, i < ls.length → re[i]? = some (.iface t (.pointer (some a))) → n0 ≤ a.block → (a.block, 2) ∈ L := fun {i t a} hi he hn => by
   rw [← hL]
   simp only [restL, List.mem_cons, List.mem_append, List.mem_flatMap, List.mem_range]
   refine .inr (.inr (.inr ⟨i, hi, ?_⟩))
   rw [he]
   simp [errB, hn]
 have hrowN : ∀ {oo : Option Addr} {cp : Nat} {xs : List Int} {b n : Nat}, RowB n0 W oo cp xs → (b, n) ∈ rowL oo xs.length → n0 ≤ b ∧ ∃ c t, W.heap[b]? = some (.cells c t (0, 0)) := fun {oo cp xs b n} hr m => by
   cases oo with
   | none => cases m
   | some a =>
     have : (b, n) = (a.block, xs.length) := List.mem_singleton.1 m
     cases this
     obtain ⟨-, -, h3, c, t, h4, -⟩ := hr.2.2.2 a rfl
     exact ⟨h3, c, t, h4⟩
 have hnew : ∀ {b n}, (b, n) ∈ taskL ao zs.length al ls.length b5 b6 b7 b8 → n0 ≤ b ∧ ∃ c t, W.heap[b]? = some (.cells c t (0, 0)) := fun {b n} m => by
   simp only [taskL, List.mem_cons, Prod.mk.injEq, List.mem_append] at m
   rcases m with ⟨rfl, -⟩ | ⟨rfl, -⟩ | ⟨rfl, -⟩ | ⟨rfl, -⟩ | m | m
   · obtain ⟨q, t, e⟩ := hT.h5; exact ⟨q, _, t, e⟩
   · obtain ⟨q, t, e⟩ := hT.h6; exact ⟨q, _, t, e⟩
   · obtain ⟨q, t, e⟩ := hT.h7; exact ⟨q, _, t, e⟩
   · obtain ⟨q, t, e⟩ := hT.h8; exact ⟨q, _, t, e⟩
   · exact hrowN hT.rw m
   · exact hrowN hT.rl m
 -- each error
 have herr : ∀ i, i < ls.length → ∃ (Mi : Nat → Prop) (err : Value), (∀ b, Mi b → M b ∧ n0 ≤ b) ∧ re[i]? = some err ∧ ErrM A Mi W err (bakerF zs c (ls.getD i 0) 0) := fun i hi => by
   obtain ⟨Wg, Td, Mi, o, k, m, err, q1, q2, q3, -, -, r3, r4⟩ := hres i hi
   refine ⟨Mi, err, fun b q => ⟨(q1 b q).1, (r3 b q).1⟩, q3, ?_⟩
   rcases r4 with ⟨-, -, r⟩ | ⟨hf, rfl, -⟩
   · exact r
   · exact .inl ⟨(bakerF_zero hf).1, by rw [hf]; rfl⟩
 have hasE : (footL A L).has Be := has_new hI mE nBe
 have hasO : (footL A L).has Bo := has_new hI mO nBo
 have hasT : ∀ {b n}, (b, n) ∈ taskL ao zs.length al ls.length b5 b6 b7 b8 → (footL A L).has b := fun m => has_new hI (mT m) (hnew m).1
 have verr : ∀ {i : Nat} {v : Value}, i < ls.length → re[i]? = some v → (footL A L).val (okFn goodS) v := fun {i v} hi hv => by
   obtain ⟨Mi, err, q1, q2, q3⟩ := herr i hi
   rw [q2] at hv
   cases hv
   rcases q3 with ⟨-, rfl⟩ | ⟨-, g, hg, rfl, -⟩
   · exact val_ev hI (bakerF_ten _ _ _ _)
   · exact val_iface _ (val_ptr (has_new hI (mG hi q2 (q1 g hg).2) (q1 g hg).2))
 have hl : ∀ b h, (b, h) ∈ L → n0 ≤ b ∧ ∃ c t, W.heap[b]? = some (.cells c t (0, 0)) ∧ ∀ (i : Nat) (v : Value), i < h → c[i]? = some v → (footL A L).val (okFn goodS) v := by
   intro b h m
   rw [← hL] at m
   simp only [restL, List.mem_cons, Prod.mk.injEq, List.mem_append, List.mem_map, List.mem_flatMap, List.mem_range] at m
   rcases m with ⟨rfl, rfl⟩ | ⟨rfl, rfl⟩ | ⟨p, hp, rfl, rfl⟩ | ⟨i, hi, m⟩
   · exact ⟨nBe, _, _, hre, fun i v hi hv => verr hi hv⟩
   · exact ⟨nBo, _, _, hro, fun i v hi => absurd hi (Nat.not_lt_zero _)⟩
   · obtain ⟨q, c, t, e⟩ := hnew (b := p.1) (n := p.2) hp
     exact ⟨q, c, t, e, fun i v hi => absurd hi (Nat.not_lt_zero _)⟩
   · obtain ⟨t, a, e1, e2, rfl, rfl⟩ := errB_mem m
     obtain ⟨Mi, err, q1, q2, q3⟩ := herr i hi
     rw [e1] at q2
     cases q2
     rcases q3 with ⟨-, q⟩ | ⟨-, g, hg, q, cc, tt, hgW, c0, c1⟩
     · exfalso
       by_cases h0 : (bakerF zs c (ls.getD i 0) 0).1 = 0
       · rw [h0, ev_nil] at q; cases q
       · rw [ev_some A h0] at q
         cases q
         have := (hI.sob _ (Nat.pos_of_ne_zero h0) (bakerF_ten zs c (ls.getD i 0) 0)).1
         omega
     · cases q
       refine ⟨e2, cc, tt, hgW, fun i v hi hv => ?_⟩
       rcases Nat.lt_or_ge i 1 with q | q
       · obtain rfl : i = 0 := by omega
         rw [c0] at hv; cases hv; exact val_int _ _
       · obtain rfl : i = 1 := by omega
         rw [c1] at hv; cases hv; exact val_ev hI (bakerF_ten _ _ _ _)
 have hsub : ∀ b, (footL A L).has b → S b ∨ M b := fun b hb => by
   rcases has_sub hI hb with q | ⟨n, m⟩
   · exact hSM b (.inl q)
   · rw [← hL] at m
     simp only [restL, List.mem_cons, Prod.mk.injEq, List.mem_append, List.mem_map, List.mem_flatMap, List.mem_range] at m
     rcases m with ⟨rfl, -⟩ | ⟨rfl, -⟩ | ⟨p, hp, rfl, -⟩ | ⟨i, hi, m⟩
     · exact .inr mBe
     · exact .inr mBo
     · exact hSM _ (.inr ⟨p.2, hp⟩)
     · obtain ⟨t, a, e1, e2, rfl, -⟩ := errB_mem m
       obtain ⟨Mi, err, q1, q2, q3⟩ := herr i hi
       rw [e1] at q2
       cases q2
       rcases q3 with ⟨-, q⟩ | ⟨-, g, hg, q, -⟩
       · exfalso
         by_cases h0 : (bakerF zs c (ls.getD i 0) 0).1 = 0
         · rw [h0, ev_nil] at q; cases q
         · rw [ev_some A h0] at q
           cases q
           have := (hI.sob _ (Nat.pos_of_ne_zero h0) (bakerF_ten zs c (ls.getD i 0) 0)).1
           omega
       · cases q
         exact .inr (q1 _ hg).1
 have hold : ∀ b, (footL A L).has b → b < W.heap.size := fun b hb => by
   obtain ⟨c, t, f, e, -⟩ := (foot_ok (ok := okFn goodS) hI hl).old b hb
   exact heap_lt e
 have va : (footL A L).val (okFn goodS) (.slice ao zs.length cap) := by
   cases hao : ao with
   | none => exact .snil _ _
   | some a => exact val_slice _ _ (hasT (n := zs.length) (by rw [hao]; simp [taskL, rowL]))
 have vl : (footL A L).val (okFn goodS) (.slice al ls.length capl) := by
   cases hal : al with
   | none => exact .snil _ _
   | some a => exact val_slice _ _ (hasT (n := ls.length) (by rw [hal]; simp [taskL, rowL]))
 have p5 : (footL A L).val (okFn goodS) (.pointer (some ⟨b5, 0, none⟩)) := val_ptr (hasT (n := 1) (by simp [taskL]))
 have p6 : (footL A L).val (okFn goodS) (.pointer (some ⟨b6, 0, none⟩)) := val_ptr (hasT (n := 1) (by simp [taskL]))
 have p7 : (footL A L).val (okFn goodS) (.pointer (some ⟨b7, 0, none⟩)) := val_ptr (hasT (n := 1) (by simp [taskL]))
 have p8 : (footL A L).val (okFn goodS) (.pointer (some ⟨b8, 0, none⟩)) := val_ptr (hasT (n := 1) (by simp [taskL]))
 have vo : (footL A L).val (okFn goodS) (.slice (some ⟨Bo, 0, none⟩) ls.length ls.length) := val_slice _ _ hasO
 have ve : (footL A L).val (okFn goodS) (.slice (some ⟨Be, 0, none⟩) ls.length ls.length) := val_slice _ _ hasE
 have vt : (footL A L).val (okFn goodS) (.tuple #[.slice (some ⟨Bo, 0, none⟩) ls.length ls.length, .slice (some ⟨Be, 0, none⟩) ls.length ls.length]) := .tuple' ((VRs.one vo).push ve)
 have vf : (footL A L).val (okFn goodS) (.func (.func 139) #[] #[.pointer (some ⟨b5, 0, none⟩), .pointer (some ⟨b6, 0, none⟩), .pointer (some ⟨b7, 0, none⟩), .pointer (some ⟨b8, 0, none⟩)]) := by
   have hx := (((VRs.one p5).push p6).push p7).push p8
   exact .func (show goodS 139 = true by kernel_rfl) rfl (fun i v V a => by simp at a) hx.1 hx.2
 -- to the rest
 have hT2 : ∀ v ∈ (List.toArray (.slice ao zs.length cap :: .int .u64 s :: .int .i64 c :: .slice al ls.length capl :: .int .i64 wk :: .pointer (some ⟨b5, 0, none⟩) :: .pointer (some ⟨b6, 0, none⟩) :: .pointer (some ⟨b7, 0, none⟩) :: .pointer (some ⟨b8, 0, none⟩) :: undef :: .slice none 0 0 :: .nilIface :: .nilIface :: .slice (some ⟨Bo, 0, none⟩) ls.length ls.length :: .slice (some ⟨Be, 0, none⟩) ls.length ls.length :: undef :: undef :: undef :: .int .i64 wk :: .slice al ls.length capl :: .int .i64 (ls.length : Int) :: .nilIface :: .nilIface :: .bool false :: undef :: .tuple #[.slice (some ⟨Bo, 0, none⟩) ls.length ls.length, .slice (some ⟨Be, 0, none⟩) ls.length ls.length] :: .slice al ls.length capl :: .int .i64 (ls.length : Int) :: .int .i64 wk :: .func (.func 139) #[] #[.pointer (some ⟨b5, 0, none⟩), .pointer (some ⟨b6, 0, none⟩), .pointer (some ⟨b7, 0, none⟩), .pointer (some ⟨b8, 0, none⟩)] :: .tuple #[.slice (some ⟨Bo, 0, none⟩) ls.length ls.length, .slice (some ⟨Be, 0, none⟩) ls.length ls.length] :: .slice (some ⟨Bo, 0, none⟩) ls.length ls.length :: .slice (some ⟨Be, 0, none⟩) ls.length ls.length :: undef :: undef :: undef :: undef :: undef :: undef :: undef :: undef :: undef :: undef :: undef :: undef :: undef :: undef :: undef :: undef :: undef :: undef :: undef :: undef :: undef :: undef :: undef :: [])), (footL A L).val (okFn goodS) v := by
   intro v hv
   simp only [List.mem_toArray, List.mem_cons, List.not_mem_nil, or_false] at hv
   rcases hv with rfl | rfl | rfl | rfl | rfl | rfl | rfl | rfl | rfl | rfl | rfl | rfl | rfl | rfl | rfl | rfl | rfl | rfl | rfl | rfl | rfl | rfl | rfl | rfl | rfl | rfl | rfl | rfl | rfl | rfl | rfl | rfl | rfl | rfl | rfl | rfl | rfl | rfl | rfl | rfl | rfl | rfl | rfl | rfl | rfl | rfl | rfl | rfl | rfl | rfl | rfl | rfl | rfl | rfl | rfl | rfl <;> first | exact VR.undef | exact val_int _ _ | exact va | exact vl | exact .nilIface | exact .snil _ _ | exact .bool _ | exact p5 | exact p6 | exact p7 | exact p8 | exact vo | exact ve | exact vt | exact vf
 have hmain : GoesW Tryd.prog true (fun _ => True) S Stop (G ((base 99).at ⟨(List.toArray (.slice ao zs.length cap :: .int .u64 s :: .int .i64 c :: .slice al ls.length capl :: .int .i64 wk :: .pointer (some ⟨b5, 0, none⟩) :: .pointer (some ⟨b6, 0, none⟩) :: .pointer (some ⟨b7, 0, none⟩) :: .pointer (some ⟨b8, 0, none⟩) :: undef :: .slice none 0 0 :: .nilIface :: .nilIface :: .slice (some ⟨Bo, 0, none⟩) ls.length ls.length :: .slice (some ⟨Be, 0, none⟩) ls.length ls.length :: undef :: undef :: undef :: .int .i64 wk :: .slice al ls.length capl :: .int .i64 (ls.length : Int) :: .nilIface :: .nilIface :: .bool false :: undef :: .tuple #[.slice (some ⟨Bo, 0, none⟩) ls.length ls.length, .slice (some ⟨Be, 0, none⟩) ls.length ls.length] :: .slice al ls.length capl :: .int .i64 (ls.length : Int) :: .int .i64 wk :: .func (.func 139) #[] #[.pointer (some ⟨b5, 0, none⟩), .pointer (some ⟨b6, 0, none⟩), .pointer (some ⟨b7, 0, none⟩), .pointer (some ⟨b8, 0, none⟩)] :: .tuple #[.slice (some ⟨Bo, 0, none⟩) ls.length ls.length, .slice (some ⟨Be, 0, none⟩) ls.length ls.length] :: .slice (some ⟨Bo, 0, none⟩) ls.length ls.length :: .slice (some ⟨Be, 0, none⟩) ls.length ls.length :: undef :: undef :: undef :: undef :: undef :: undef :: undef :: undef :: undef :: undef :: undef :: undef :: undef :: undef :: undef :: undef :: undef :: undef :: undef :: undef :: undef :: undef :: undef :: [])), []⟩ [.code restR]) (C :: Cs)) W M := by
   refine gw_lone (F := footL A L) (eq := true) (fr0 := (base 99).at ⟨(List.toArray (.slice ao zs.length cap :: .int .u64 s :: .int .i64 c :: .slice al ls.length capl :: .int .i64 wk :: .pointer (some ⟨b5, 0, none⟩) :: .pointer (some ⟨b6, 0, none⟩) :: .pointer (some ⟨b7, 0, none⟩) :: .pointer (some ⟨b8, 0, none⟩) :: undef :: .slice none 0 0 :: .nilIface :: .nilIface :: .slice (some ⟨Bo, 0, none⟩) ls.length ls.length :: .slice (some ⟨Be, 0, none⟩) ls.length ls.length :: undef :: undef :: undef :: .int .i64 wk :: .slice al ls.length capl :: .int .i64 (ls.length : Int) :: .nilIface :: .nilIface :: .bool false :: undef :: .tuple #[.slice (some ⟨Bo, 0, none⟩) ls.length ls.length, .slice (some ⟨Be, 0, none⟩) ls.length ls.length] :: .slice al ls.length capl :: .int .i64 (ls.length : Int) :: .int .i64 wk :: .func (.func 139) #[] #[.pointer (some ⟨b5, 0, none⟩), .pointer (some ⟨b6, 0, none⟩), .pointer (some ⟨b7, 0, none⟩), .pointer (some ⟨b8, 0, none⟩)] :: .tuple #[.slice (some ⟨Bo, 0, none⟩) ls.length ls.length, .slice (some ⟨Be, 0, none⟩) ls.length ls.length] :: .slice (some ⟨Bo, 0, none⟩) ls.length ls.length :: .slice (some ⟨Be, 0, none⟩) ls.length ls.length :: undef :: undef :: undef :: undef :: undef :: undef :: undef :: undef :: undef :: undef :: undef :: undef :: undef :: undef :: undef :: undef :: undef :: undef :: undef :: undef :: undef :: undef :: undef :: [])), []⟩ [.code restR]) (Post := PostR A ls.length (.slice (some ⟨Bo, 0, none⟩) ls.length ls.length) (fun i => bakerF zs c (ls.getD i 0) 0) W.heap.size) goodP (fun _ => rfl) gl_has (foot_ok hI hl) hsub hM ?_ (fun τ => callsFrom_of_wp Tryd.func99 (wp_mono (rights_rest A Be ls.length ls.length (.slice (some ⟨Bo, 0, none⟩) ls.length ls.length) (fun i => bakerF zs c (ls.getD i 0) 0) { loneW (okFn goodS) (footL A L) W with tape := τ } ?_ hls ?_ _ _ _ _ _ _ _ _ _ _ _ _ _ _ _ _ _ _ _ _ _ _ _ _ _ _ _ _ _ _ _ _ _ _ _ _ _ _ _ _ _ _ _ _ _ _ _ _ _ _ _ _ _ _) ?_)) ?_
   · refine FrA.mk ⟨_, Tryd.func99⟩ (vals_refl hT2) (fun it hi => ?_) (.inl rfl)
     rw [List.mem_singleton.1 hi]
     kernel_rfl
   · exact ⟨⟨(foot_sents (ok := okFn goodS) (l := L) hI).errs.cell⟩, (foot_sents (ok := okFn goodS) (l := L) hI).typ, (foot_sents (ok := okFn goodS) (l := L) hI).blk, hI.sen.ne⟩
   · intro i hi
     obtain ⟨Mi, err, q1, q2, q3⟩ := herr i hi
     refine ⟨err, foot_new hI mE nBe hi (by rw [at_cell hre]; exact q2), ?_, bakerF_ten _ _ _ _, fun q => (bakerF_zero q).1⟩
     rcases q3 with q | ⟨h0, g, hg, rfl, cc, tt, hgW, c0, c1⟩
     · exact .inl q
     · have mg := mG hi q2 (q1 g hg).2
       exact .inr ⟨h0, g, rfl, foot_new hI mg (q1 g hg).2 (by decide) (by rw [at_cell hgW]; exact c0), foot_new hI mg (q1 g hg).2 (by decide) (by rw [at_cell hgW]; exact c1)⟩
   · exact fun e a' w' hq => body_mono (fun e w' ⟨v, h1, h2⟩ => ⟨v, h1, { loneW (okFn goodS) (footL A L) W with tape := τ }, loneW_size (ok := okFn goodS) (F := footL A L) (W := W), h2⟩) hq
   · intro V v w ρ W1 N hv hr he hp hN hrel _
     refine hk V W1 N hN hrel ?_
     obtain ⟨w0, hm0, -, hp⟩ := hp
     rcases hp with ⟨hz, rfl⟩ | ⟨i, hi, hz, hf, x, rfl, hx⟩
     · cases hv with
       | tuple hs hx =>
         obtain ⟨X0, X1, rfl, x0, x1⟩ := VRs.at2 ⟨hs, hx⟩
         cases x1
         obtain rfl := vr_slice_old he hasO x0
         have hkeep : ∀ b, M b → W1.heap[b]? = W.heap[b]? := fun b hb => hrel.keep b (hM b hb) (.inr hb)
         refine .inl ⟨hz, Bo, ro, _, rfl, .inl mBo, nBo, zro, by rw [hkeep Bo mBo]; exact hro, fun i hi => ?_⟩
         obtain ⟨Wg, Td, Mi, o, k, m, err, q1, q2, q3, -, -, r3, r4⟩ := hres i hi
         rcases r4 with ⟨hf, -⟩ | ⟨-, -, r⟩
         · exact absurd (hz i hi) hf
         · exact ⟨_, q2, (r.kept fun b hb => hkeep b (q1 b hb).1).mono fun b hb => ⟨.inl (q1 b hb).1, (r3 b hb).1⟩⟩
     · cases hv with
       | tuple hs hx' =>
         obtain ⟨X0, X1, rfl, x0, x1⟩ := VRs.at2 ⟨hs, hx'⟩
         cases x0
         have hE := err_over hI hr he (w0 := w0) (fun b hb => by rw [hm0]; exact hold b hb) (f := ((bakerF zs c (ls.getD i 0) 0).1, (i : Int))) (bakerF_ten zs c (ls.getD i 0) 0) x1 hx
         exact .inr ⟨i, hi, hz, hf, X1, rfl, hE.mono fun b q => ⟨.inr q, Nat.le_trans hI.size (hN b q).1⟩⟩
 change GoesW Tryd.prog true (fun _ => True) S Stop (G ((base 99).at (Act.put ⟨(List.toArray (.slice ao zs.length cap :: .int .u64 s :: .int .i64 c :: .slice al ls.length capl :: .int .i64 wk :: .pointer (some ⟨b5, 0, none⟩) :: .pointer (some ⟨b6, 0, none⟩) :: .pointer (some ⟨b7, 0, none⟩) :: .pointer (some ⟨b8, 0, none⟩) :: undef :: .slice none 0 0 :: .nilIface :: .nilIface :: undef :: undef :: undef :: undef :: undef :: .int .i64 wk :: .slice al ls.length capl :: .int .i64 (ls.length : Int) :: .nilIface :: .nilIface :: .bool false :: undef :: undef :: .slice al ls.length capl :: .int .i64 (ls.length : Int) :: .int .i64 wk :: .func (.func 139) #[] #[.pointer (some ⟨b5, 0, none⟩), .pointer (some ⟨b6, 0, none⟩), .pointer (some ⟨b7, 0, none⟩), .pointer (some ⟨b8, 0, none⟩)] :: undef :: undef :: undef :: undef :: undef :: undef :: undef :: undef :: undef :: undef :: undef :: undef :: undef :: undef :: undef :: undef :: undef :: undef :: undef :: undef :: undef :: undef :: undef :: undef :: undef :: undef :: [])), []⟩ (some 30) (.tuple #[.slice (some ⟨Bo, 0, none⟩) ls.length ls.length, .slice (some ⟨Be, 0, none⟩) ls.length ls.length])) [.inRegion rgR4 [5, 6, 7, 8, 9], .code restR]) (C :: Cs)) W M
 revert hmain
 generalize restR = rr
 intro hmain
 simp only [rgR4, bodyR, Tryd.f99, Option.getD_some]
 walk_nrm
 clear hT2 hl hsub hold herr hres hnew verr
 repeat (first
   | refine gw_seq ?_
   | refine gw_skip ?_
   | refine gw_block ?_
   | refine gw_loop ?_
   | refine gw_inLoop ?_
   | refine gw_inBlock ?_
   | refine gw_region_end ?_
   | refine gw_label ?_
   | refine gw_ret ?_
   | (refine gw_region ?_; simp only [List.size_toArray, List.length_cons, List.length_nil, Nat.reduceAdd, Nat.zero_add, List.range, List.range.loop])
   | refine gw_exit rfl ?_
   | refine gw_yes rfl ?_
   | refine gw_no rfl ?_
   | (refine gw_op rfl rfl (by k_ne) (fun wq rq iq Kq hKq => ?_)
      go_simp
      refine hKq _ ?_ ?_
      · intro eq heq
        have hmq := mem_listed heq
        simp [go_sem, *] at hmq
      clear hKq Kq rq iq wq
      try w_num)
   | (refine gw_unwanted rfl rfl ?_; walk_nrm)
   | (refine gw_defer rfl rfl (by k_ne) rfl ?_; walk_nrm))
 exact hmain
end
end Go.Proofs.YtajnfkmkombajabDoor
namespace Go.Proofs.YtajnfkmkombajabDoor
open Go.RowKit
end Go.Proofs.YtajnfkmkombajabDoor
namespace Go.Proofs.YtajnfkmkombajabDoor
open Go.RowKit
theorem law3_faulted (A : Nat → Addr) (v : Value) (f : Nat × Int) (w0 w : World) (hS : Sents A w) (hv : ErrIs A w0 w v f) (hf : f.1 ≤ 10) (h0 : f.2 ≠ -1 → f.1 ≠ 0) :
   Calls Tryd.prog 101 #[v, .agg #[.int .i64 f.1, .int .i64 f.2]] w fun e w' => e = .returned (.bool true) ∧ Below w.heap.size w w' := by
 obtain ⟨c, at_⟩ := f
 simp only at hf h0
 have HS := Lib.hid hS; clear hS
 have hcc : ((c : Int) == (c : Int)) = true := beq_self_eq_true _
 have haa : (at_ == at_) = true := beq_self_eq_true _
 have bx : ∀ a : Int, Below w.heap.size w (w.alloc (.cells #[.int .i64 c, .int .i64 a] 72)) := fun a => (Below.refl _ _).alloc (Nat.le_refl _) _
 have BX := Lib.hid bx; clear bx
 rcases hv with ⟨ha, hv⟩ | ⟨ha, g, _, hv, c0, c1⟩
 · simp only at ha hv
   subst ha
   by_cases hc : c = 0
   · subst hc
     rw [hv, ev_nil]
     clear hv haa
     go_enter Tryd.func101, Tryd.ntmps101
     go_wp2_with fail
     refine (code_nil _).mono ?_
     rintro e w' ⟨rfl, hb⟩
     have hb2 := btrans (BX.out _) hb
     have q0 := hb.cell (p := ⟨w.heap.size, 0, none⟩) (by simp)
     have q1 := hb.cell (p := ⟨w.heap.size, 1, none⟩) (by simp)
     simp at q0 q1
     go_wp2
     go_ret
     exact ⟨rfl, hb2⟩
   · rw [hv, ev_some A hc]
     have hc0 : ((c : Int) == 0) = false := by simp; exact hc
     clear hv haa
     go_enter Tryd.func101, Tryd.ntmps101
     go_wp2_with fail
     refine (code_bare A c (by omega) hf _ (HS.out.below (BX.out _))).mono ?_
     rintro e w' ⟨rfl, hb⟩
     have hb2 := btrans (BX.out _) hb
     have q0 := hb.cell (p := ⟨w.heap.size, 0, none⟩) (by simp)
     have q1 := hb.cell (p := ⟨w.heap.size, 1, none⟩) (by simp)
     simp at q0 q1
     go_wp2
     go_ret
     exact ⟨rfl, hb2⟩
 · simp only at ha hv c0 c1
   have hc : c ≠ 0 := h0 (by omega)
   rw [ev_some A hc] at c1
   rw [hv]
   have hc0 : ((c : Int) == 0) = false := by simp; exact hc
   have hgl := World.block_lt_of_cell? _ _ c0
   have C0 := Lib.hid c0; have C1 := Lib.hid c1
   clear hv c0 c1
   go_enter Tryd.func101, Tryd.ntmps101
   go_wp2_with fail
   refine (code_fault A c (by omega) hf at_ g _ (HS.out.below (BX.out _)) (by rw [(BX.out _).cell (p := ⟨g, 0, none⟩) hgl]; exact C0.out) (by rw [(BX.out _).cell (p := ⟨g, 1, none⟩) hgl]; exact C1.out)).mono ?_
   rintro e w' ⟨rfl, hb⟩
   have hb2 := btrans (BX.out _) hb
   have q0 := hb.cell (p := ⟨w.heap.size, 0, none⟩) (by simp)
   have q1 := hb.cell (p := ⟨w.heap.size, 1, none⟩) (by simp)
   simp at q0 q1
   go_wp2
   go_ret
   exact ⟨rfl, hb2⟩
end Go.Proofs.YtajnfkmkombajabDoor
