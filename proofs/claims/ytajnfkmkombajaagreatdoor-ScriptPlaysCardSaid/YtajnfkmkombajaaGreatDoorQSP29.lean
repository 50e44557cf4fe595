/-
  The document's chain in memory: how it lies; steps of its parts.
  Plain: the document's bend. No program in sight.
  Contract of the document's BendOf, at a right bend.
  Plain: the document's bonus is the same. No program in sight.
  Contracts of the document's ratio, rate, bonus, reward.
  Plain: the document's columns are those of package draw, at each step. No program in sight.
-/
import Derived.Test.YtajnfkmkombajaaGreatDoorQSP28
import Derived.Test.YtajnfkmkombajaaGreatDoorQSP14
import Derived.Test.YtajnfkmkombajaaGreatDoorQSP04
import Derived.Test.YtajnfkmkombajaaGreatDoorQSP18
import Derived.Deep.QuietTactic
import Derived.BigQuiet
import Derived.Test.YtajnfkmkombajaaGreatDoorQSP23
import Derived.Test.YtajnfkmkombajaaGreatDoorQSP19
import Derived.Test.YtajnfkmkombajaaGreatDoorQSP15
set_option linter.unusedVariables false
set_option linter.unusedSimpArgs false
set_option linter.unusedVariables false
namespace Go.Proofs.YtajnfkmkombajaaGreatDoor
open Go.RowKit Go.Maps
structure RChL where
 pb : Nat
 hb : Nat
 sb : Nat
 kb : Nat
 Fs : Nat → Prop
 Fk : Nat → Prop
 Fp : Nat → Prop
 pv : Value
def RChL.foot (K : RChL) (cb b : Nat) : Prop := b = cb ∨ b = K.pb ∨ b = K.hb ∨ K.Fs b ∨ K.Fk b ∨ K.Fp b
def rchainVs (K : RChL) (sd : Nat) (x : CS) : List Value :=
 [.pointer (some ⟨K.pb, 0, none⟩), .pointer (some ⟨K.sb, 0, none⟩), .pointer (some ⟨K.kb, 0, none⟩), .int .u64 sd, .int .i64 x.cycle, .int .i64 x.level, .int .i64 x.bonus, K.pv]
structure RChainL (cb : Nat) (K : RChL) (sd : Nat) (x : CS) (Z : List (List Int)) (w : World) : Prop where
 row : RowAt cb 50 (rchainVs K sd x) w
 purse : RPurseAt K.pb K.hb x.p w
 st : RStAt K.sb K.Fs x.s w
 ct : RCourtAt K.kb K.Fk x.k w
 pics : PicsAt K.Fp K.pv Z w
 pl : ∀ b, K.Fp b → b < w.heap.size
 d0 : cb ≠ K.pb ∧ cb ≠ K.hb ∧ ¬ K.Fs cb ∧ ¬ K.Fk cb ∧ ¬ K.Fp cb
 d1 : ∀ b, b = K.pb ∨ b = K.hb → ¬ K.Fs b ∧ ¬ K.Fk b ∧ ¬ K.Fp b
 d2 : ∀ b, K.Fs b → ¬ K.Fk b ∧ ¬ K.Fp b
 d3 : ∀ b, K.Fk b → ¬ K.Fp b
section
variable {cb sd : Nat} {K : RChL} {x : CS} {Z : List (List Int)} {w w' : World}
theorem RChainL.cell (h : RChainL cb K sd x Z w) (i : Nat) : w.cell? ⟨cb, i, none⟩ = (rchainVs K sd x)[i]? := h.row.cell i
theorem RPurseAt.two {b hb : Nat} {p : PS} (h : RPurseAt b hb p w) {c : Nat} (hc : c = b ∨ c = hb) : c < w.heap.size := by
 rcases hc with rfl | rfl
 · exact h.row.lt
 · exact h.has.lt
theorem RChainL.keep {G : Nat → Prop} (h : RChainL cb K sd x Z w) (k : Keep G w w') (hG : ∀ b, K.foot cb b → ¬ G b) : RChainL cb K sd x Z w' :=
 ⟨h.row.keep k (hG _ (.inl rfl)), h.purse.keep k (hG _ (.inr (.inl rfl))) (hG _ (.inr (.inr (.inl rfl)))), h.st.keep k (fun b hb => hG b (.inr (.inr (.inr (.inl hb))))), h.ct.keep k (fun b hb => hG b (.inr (.inr (.inr (.inr (.inl hb)))))),
   h.pics.keep k (fun b hb => hG b (.inr (.inr (.inr (.inr (.inr hb)))))), fun b hb => Nat.lt_of_lt_of_le (h.pl b hb) k.size, h.d0, h.d1, h.d2, h.d3⟩
theorem RChainL.below (h : RChainL cb K sd x Z w) (k : Below w.heap.size w w') : RChainL cb K sd x Z w' := h.keep (G := fun _ => False) (Keep.of_below k) (fun _ _ => id)
theorem RChainL.footlt (h : RChainL cb K sd x Z w) : ∀ b, K.foot cb b → b < w.heap.size := fun b hb => by
 rcases hb with rfl | hb | hb | hb | hb | hb
 · exact h.row.lt
 · exact h.purse.two (.inl hb)
 · exact h.purse.two (.inr hb)
 · exact h.st.lt b hb
 · exact h.ct.lt b hb
 · exact h.pl b hb
theorem RChainL.purse' (h : RChainL cb K sd x Z w) {p : PS} (k : RPurseP K.pb K.hb p w w') : RChainL cb K sd { x with p := p } Z w' :=
 ⟨h.row.keep k.1 (fun e => e.elim h.d0.1 h.d0.2.1), k.2, h.st.keep k.1 (fun b hb e => (h.d1 b e).1 hb), h.ct.keep k.1 (fun b hb e => (h.d1 b e).2.1 hb), h.pics.keep k.1 (fun b hb e => (h.d1 b e).2.2 hb),
   fun b hb => Nat.lt_of_lt_of_le (h.pl b hb) k.1.size, h.d0, h.d1, h.d2, h.d3⟩
def RChL.withS (K : RChL) (w w' : World) : RChL := { K with Fs := grownF K.Fs w w' }
def RChL.withK (K : RChL) (w w' : World) : RChL := { K with Fk := grownF K.Fk w w' }
theorem RChainL.stakes' (h : RChainL cb K sd x Z w) {s : SS} (k : RStP K.sb K.Fs s w w') : RChainL cb (K.withS w w') sd { x with s := s } Z w' := by
 have hc := h.row.lt
 have hp : ∀ b, b = K.pb ∨ b = K.hb → b < w.heap.size := fun b hb => h.purse.two hb
 refine ⟨h.row.keep k.1 h.d0.2.2.1, h.purse.keep k.1 (h.d1 _ (.inl rfl)).1 (h.d1 _ (.inr rfl)).1, k.2, h.ct.keep k.1 (fun b hb hf => (h.d2 b hf).1 hb), h.pics.keep k.1 (fun b hb hf => (h.d2 b hf).2 hb), fun b hb => Nat.lt_of_lt_of_le (h.pl b hb) k.1.size,
   ⟨h.d0.1, h.d0.2.1, fun hf => ?_, h.d0.2.2.2⟩, fun b hb => ⟨fun hf => ?_, (h.d1 b hb).2⟩, fun b hf => ?_, h.d3⟩
 · rcases hf with hf | hf
   · exact h.d0.2.2.1 hf
   · omega
 · rcases hf with hf | hf
   · exact (h.d1 b hb).1 hf
   · have := hp b hb
     omega
 · rcases hf with hf | hf
   · exact h.d2 b hf
   · exact ⟨fun hb => by have := h.ct.lt b hb; omega, fun hb => by have := h.pl b hb; omega⟩
theorem RChainL.court' (h : RChainL cb K sd x Z w) {c : KS} (k : RCourtP K.kb K.Fk c w w') : RChainL cb (K.withK w w') sd { x with k := c } Z w' := by
 have hc := h.row.lt
 have hp : ∀ b, b = K.pb ∨ b = K.hb → b < w.heap.size := fun b hb => h.purse.two hb
 refine ⟨h.row.keep k.1 h.d0.2.2.2.1, h.purse.keep k.1 (h.d1 _ (.inl rfl)).2.1 (h.d1 _ (.inr rfl)).2.1, h.st.keep k.1 (fun b hb hf => (h.d2 b hb).1 hf), k.2, h.pics.keep k.1 (fun b hb hf => h.d3 b hf hb), fun b hb => Nat.lt_of_lt_of_le (h.pl b hb) k.1.size,
   ⟨h.d0.1, h.d0.2.1, h.d0.2.2.1, fun hf => ?_, h.d0.2.2.2.2⟩, fun b hb => ⟨(h.d1 b hb).1, fun hf => ?_, (h.d1 b hb).2.2⟩, fun b hb => ⟨fun hf => ?_, (h.d2 b hb).2⟩, fun b hf => ?_⟩
 · rcases hf with hf | hf
   · exact h.d0.2.2.2.1 hf
   · omega
 · rcases hf with hf | hf
   · exact (h.d1 b hb).2.1 hf
   · have := hp b hb
     omega
 · rcases hf with hf | hf
   · exact (h.d2 b hb).1 hf
   · have := h.st.lt b hb; omega
 · rcases hf with hf | hf
   · exact h.d3 b hf
   · exact fun hb => by have := h.pl b hb; omega
end
structure RChGo (W : World) (F : Nat → Prop) (cb : Nat) (K : RChL) (sd : Nat) (x : CS) (Z : List (List Int)) (w : World) : Prop where
 keep : Keep F W w
 ch : RChainL cb K sd x Z w
 foot : ∀ b, K.foot cb b → F b ∨ (W.heap.size ≤ b ∧ b < w.heap.size)
 Flt : ∀ b, F b → b < W.heap.size
section
variable {cb sd : Nat} {F : Nat → Prop} {K : RChL} {x : CS} {Z : List (List Int)} {W w w' : World}
theorem RChGo.start (h : RChainL cb K sd x Z w) (hF : ∀ b, K.foot cb b → F b) (hl : ∀ b, F b → b < w.heap.size) : RChGo w F cb K sd x Z w := ⟨Keep.refl _ _, h, fun b hb => .inl (hF b hb), hl⟩
theorem RChGo.below (h : RChGo W F cb K sd x Z w) (k : Below w.heap.size w w') : RChGo W F cb K sd x Z w' :=
 ⟨h.keep.trans (Keep.of_below k), h.ch.below k, fun b hb => (h.foot b hb).imp id (fun ⟨a, c⟩ => ⟨a, Nat.lt_of_lt_of_le c k.size⟩), h.Flt⟩
theorem RChGo.drewN (h : RChGo W F cb K sd x Z w) (j : Nat) : RChGo W F cb K sd x Z (w.drewN j) := h.below ((Below.refl _ _).drewN j)
theorem RChGo.dr (h : RChGo W F cb K sd x Z w) (k : Dr w w') : RChGo W F cb K sd x Z w' := by obtain ⟨j, rfl⟩ := k; exact h.drewN j
theorem RChGo.step (h : RChGo W F cb K sd x Z w) {G : Nat → Prop} (k : Keep G w w') (hG : ∀ b, G b → K.foot cb b) {K' : RChL} {y : CS} {Y : List (List Int)} (hc : RChainL cb K' sd y Y w') (hf : ∀ b, K'.foot cb b → K.foot cb b ∨ (w.heap.size ≤ b ∧ b < w'.heap.size)) : RChGo W F cb K' sd y Y w' := by
 refine ⟨h.keep.andThen k (fun b hb => (h.foot b (hG b hb)).imp id (·.1)), hc, fun b hb => ?_, h.Flt⟩
 have hs := k.size; have hs0 := h.keep.size
 rcases hf b hb with hb | hb
 · rcases h.foot b hb with hb | hb
   · exact .inl hb
   · exact .inr ⟨hb.1, by omega⟩
 · exact .inr ⟨by omega, hb.2⟩
theorem RChGo.purse (h : RChGo W F cb K sd x Z w) {p : PS} (k : RPurseP K.pb K.hb p w w') : RChGo W F cb K sd { x with p := p } Z w' :=
 h.step k.1 (fun b hb => hb.elim (fun e => .inr (.inl e)) (fun e => .inr (.inr (.inl e)))) (h.ch.purse' k) (fun b hb => .inl hb)
theorem RChGo.stakes (h : RChGo W F cb K sd x Z w) {s : SS} (k : RStP K.sb K.Fs s w w') : RChGo W F cb (K.withS w w') sd { x with s := s } Z w' :=
 h.step k.1 (fun b hb => .inr (.inr (.inr (.inl hb)))) (h.ch.stakes' k) (fun b hb => by
   rcases hb with hb | hb | hb | hb | hb
   · exact .inl (.inl hb)
   · exact .inl (.inr (.inl hb))
   · exact .inl (.inr (.inr (.inl hb)))
   · rcases hb with hb | hb
     · exact .inl (.inr (.inr (.inr (.inl hb))))
     · exact .inr hb
   · exact .inl (.inr (.inr (.inr (.inr hb)))))
theorem RChGo.court (h : RChGo W F cb K sd x Z w) {c : KS} (k : RCourtP K.kb K.Fk c w w') : RChGo W F cb (K.withK w w') sd { x with k := c } Z w' :=
 h.step k.1 (fun b hb => .inr (.inr (.inr (.inr (.inl hb))))) (h.ch.court' k) (fun b hb => by
   rcases hb with hb | hb | hb | hb | hb | hb
   · exact .inl (.inl hb)
   · exact .inl (.inr (.inl hb))
   · exact .inl (.inr (.inr (.inl hb)))
   · exact .inl (.inr (.inr (.inr (.inl hb))))
   · rcases hb with hb | hb
     · exact .inl (.inr (.inr (.inr (.inr (.inl hb)))))
     · exact .inr hb
   · exact .inl (.inr (.inr (.inr (.inr (.inr hb))))))
theorem RChGo.put (h : RChGo W F cb K sd x Z w) {i : Nat} {v : Value} {y : CS} (hv : (rchainVs K sd x).set i v = rchainVs K sd y) (hp : y.p = x.p) (hs : y.s = x.s) (hk : y.k = x.k) : RChGo W F cb K sd y Z (w.setCell ⟨cb, i, none⟩ v) := by
 have k : Keep (· = cb) w (w.setCell ⟨cb, i, none⟩ v) := (Keep.refl _ _).put v
 have c := h.ch
 refine h.step k (fun b hb => .inl hb) ⟨?_, ?_, ?_, ?_, ?_, fun b hb => by have := c.pl b hb; simpa [World.setCell] using this, c.d0, c.d1, c.d2, c.d3⟩ (fun b hb => .inl hb)
 · rw [← hv]; exact c.row.set i v
 · rw [hp]; exact c.purse.keep k (fun e => c.d0.1 e.symm) (fun e => c.d0.2.1 e.symm)
 · rw [hs]; exact c.st.keep k (fun b hb e => by subst e; exact c.d0.2.2.1 hb)
 · rw [hk]; exact c.ct.keep k (fun b hb e => by subst e; exact c.d0.2.2.2.1 hb)
 · exact c.pics.keep k (fun b hb e => by subst e; exact c.d0.2.2.2.2 hb)
theorem RChGo.c0 (h : RChGo W F cb K sd x Z w) : w.cell? ⟨cb, 0, none⟩ = some (.pointer (some ⟨K.pb, 0, none⟩)) := h.ch.cell 0
theorem RChGo.c1 (h : RChGo W F cb K sd x Z w) : w.cell? ⟨cb, 1, none⟩ = some (.pointer (some ⟨K.sb, 0, none⟩)) := h.ch.cell 1
theorem RChGo.c2 (h : RChGo W F cb K sd x Z w) : w.cell? ⟨cb, 2, none⟩ = some (.pointer (some ⟨K.kb, 0, none⟩)) := h.ch.cell 2
theorem RChGo.c3 (h : RChGo W F cb K sd x Z w) : w.cell? ⟨cb, 3, none⟩ = some (.int .u64 sd) := h.ch.cell 3
theorem RChGo.c4 (h : RChGo W F cb K sd x Z w) : w.cell? ⟨cb, 4, none⟩ = some (.int .i64 x.cycle) := h.ch.cell 4
theorem RChGo.c5 (h : RChGo W F cb K sd x Z w) : w.cell? ⟨cb, 5, none⟩ = some (.int .i64 x.level) := h.ch.cell 5
theorem RChGo.c6 (h : RChGo W F cb K sd x Z w) : w.cell? ⟨cb, 6, none⟩ = some (.int .i64 x.bonus) := h.ch.cell 6
theorem RChGo.c7 (h : RChGo W F cb K sd x Z w) : w.cell? ⟨cb, 7, none⟩ = some K.pv := h.ch.cell 7
end
structure RCN (W : World) (cb : Nat) (K : RChL) (sd : Nat) (x : CS) (Z : List (List Int)) (w : World) : Prop where
 below : Below W.heap.size W w
 ch : RChainL cb K sd x Z w
 new : ∀ b, K.foot cb b → W.heap.size ≤ b
section
variable {W w w' : World} {cb sd : Nat} {K K' : RChL} {x y : CS} {Z Y : List (List Int)} {G : Nat → Prop}
theorem RCN.go (h : RCN W cb K sd x Z w) : RChGo w (K.foot cb) cb K sd x Z w := RChGo.start h.ch (fun _ hb => hb) h.ch.footlt
theorem RCN.of (h : RCN W cb K sd x Z w) (k : RChGo w (K.foot cb) cb K' sd y Y w') : RCN W cb K' sd y Y w' :=
 ⟨Keep.after h.below k.keep h.new, k.ch, fun b hb => (k.foot b hb).elim (h.new b) (fun ⟨a, _⟩ => Nat.le_trans h.below.size a)⟩
theorem RCN.next (h : RCN W cb K sd x Z w) (b : Below w.heap.size w w') : RCN W cb K sd x Z w' := ⟨btrans h.below b, h.ch.below b, h.new⟩
theorem RCN.drewN (h : RCN W cb K sd x Z w) (j : Nat) : RCN W cb K sd x Z (w.drewN j) := h.next ((Below.refl _ _).drewN j)
theorem RCN.other (h : RCN W cb K sd x Z w) (k : Keep G w w') (hG : ∀ b, G b → W.heap.size ≤ b) (hd : ∀ b, K.foot cb b → ¬ G b) : RCN W cb K sd x Z w' := ⟨Keep.after h.below k hG, h.ch.keep k hd, h.new⟩
theorem RCN.since {W0 : World} (h : RCN W cb K sd x Z w) (b : Below W0.heap.size W0 W) : RCN W0 cb K sd x Z w := ⟨b.trans (h.below.mono b.size), h.ch, fun c hc => Nat.le_trans b.size (h.new c hc)⟩
end
end Go.Proofs.YtajnfkmkombajaaGreatDoor
namespace Go.Proofs.YtajnfkmkombajaaGreatDoor
open Go.RowKit
theorem fall_eq {a b N : Int} (hb : 1 ≤ b) (hN : a = -N) : a / b = -((N + b - 1) / b) := by
 subst hN
 have h1 := Int.emod_add_mul_ediv (N + b - 1) b
 have h2 := Int.emod_nonneg (N + b - 1) (show b ≠ 0 by omega)
 have h3 := Int.emod_lt_of_pos (N + b - 1) (show 0 < b by omega)
 generalize (N + b - 1) / b = q at *
 generalize (N + b - 1) % b = r at *
 have h4 : -N = (b - 1 - r) + b * (-q) := by rw [Int.mul_neg]; omega
 rw [h4, Int.add_mul_ediv_left _ _ (show b ≠ 0 by omega), Int.ediv_eq_zero_of_lt (by omega) (by omega)]
 omega
theorem bend_fall {p q : Int × Int} {x : Int} (hw : 1 ≤ q.1 - p.1) : p.2 + (q.2 - p.2) * (x - p.1) / (q.1 - p.1) = p.2 - ((p.2 - q.2) * (x - p.1) + (q.1 - p.1) - 1) / (q.1 - p.1) := by
 have h : (q.2 - p.2) * (x - p.1) = -((p.2 - q.2) * (x - p.1)) := by rw [← Int.neg_mul]; congr 1; omega
 rw [fall_eq hw h]; omega
theorem mul_small {a b : Int} (h0 : 0 ≤ a) (h1 : a ≤ 1000000) (h2 : 0 ≤ b) (h3 : b ≤ 1000000) : 0 ≤ a * b ∧ a * b ≤ 1000000000000 := by
 refine ⟨Int.mul_nonneg h0 h2, ?_⟩
 have := Int.mul_le_mul h1 h3 h2 (by omega : (0 : Int) ≤ 1000000)
 omega
theorem div_small {a b : Int} (h0 : 0 ≤ a) (h1 : a ≤ 2000000000000) (hb : 1 ≤ b) : a.tdiv b = a / b ∧ 0 ≤ a / b ∧ a / b ≤ 2000000000000 := by
 refine ⟨Int.tdiv_eq_ediv_of_nonneg h0, Int.ediv_nonneg h0 (by omega), ?_⟩
 have := Int.ediv_le_self b h0
 omega
end Go.Proofs.YtajnfkmkombajaaGreatDoor
namespace Go.Proofs.YtajnfkmkombajaaGreatDoor
open Go.RowKit
set_option maxRecDepth 8000 in
set_option maxHeartbeats 1000000 in
theorem ref_BendOf (b off len cap : Nat) (l : List (Int × Int)) (x : Int) (w : World) (R : RdP w (some ⟨b, off, none⟩) len cap l) (hf : (checkF l).1 = 0) (h0 : 0 ≤ x) (h1 : x ≤ 1000000) :
   Calls Tryz.prog 130 #[.slice (some ⟨b, off, none⟩) len cap, .int .i64 x] w fun e w' => e = .returned (.int .i64 (bendV l x)) ∧ Below w.heap.size w w' := by
 have B := check_ok hf
 have hlen : 2 ≤ len := by rw [← R.size]; exact B.two
 have hlen8 : len ≤ 8 := by rw [← R.size]; exact B.eight
 obtain ⟨_, b', off', ha, hb, hcell⟩ := (R.split).resolve_left (by omega)
 cases ha
 have Hc := Lib.hid hcell; clear hcell
 have HB := Lib.hid B; clear B
 have HR := Lib.hid R; clear R
 obtain ⟨z1, z2⟩ := Hc.out 0 (by omega)
 simp only [Nat.zero_mul, Nat.add_zero] at z1 z2
 have hln : (0 : Int) < (len : Int) := by omega
 obtain ⟨p0, hp0⟩ : ∃ p0, p0 = l.getD 0 (0, 0) := ⟨_, rfl⟩
 rw [← hp0] at z1 z2
 have Hp0 := Lib.hid hp0; clear hp0
 clear hf
 by_cases hx0 : x < p0.1
 · have HV : Hid (bendV l x = p0.2) := (by unfold bendV; rw [← Hp0.out, if_pos hx0] : bendV l x = p0.2)
   go_enter Tryz.func130, Tryz.ntmps130
   go_wp2
   go_ret
   exact ⟨by rw [HV.out]; rfl, Below.refl _ _⟩
 · have HV : Hid (bendV l x = bendGo (l.drop 0) x) := (by unfold bendV; rw [← Hp0.out, if_neg hx0]; rfl : bendV l x = bendGo (l.drop 0) x)
   have hpx : p0.1 ≤ x := by omega
   go_enter Tryz.func130, Tryz.ntmps130
   go_wp2_with fail
   go_loopw [5] (fun i wr => ∃ m : Nat, 1 ≤ m ∧ m ≤ len ∧ i = .int .i64 m ∧ Below w.heap.size w wr ∧ bendV l x = bendGo (l.drop (m - 1)) x ∧ (l.getD (m - 1) (0, 0)).1 ≤ x) (fun i _ => len - (intOf i).toNat)
   case atStart => exact ⟨1, Nat.le_refl _, by omega, rfl, Below.refl _ _, HV.out, by rw [← Hp0.out]; exact hpx⟩
   case round =>
     obtain ⟨m, hm1, hk, rfl, hbel, hv, hkx⟩ := hrel
     have Hv := Lib.hid hv; clear hv
     have Hbel := Lib.hid hbel; clear hbel
     have hbs : b < wr.heap.size := Nat.lt_of_lt_of_le hb Hbel.out.size
     have carry : ∀ o, wr.cell? ⟨b, o, none⟩ = w.cell? ⟨b, o, none⟩ := fun o => Hbel.out.cell (p := ⟨b, o, none⟩) hb
     have Hcarry := Lib.hid carry; clear carry
     have i0 : (0 : Int) ≤ (m : Int) - 1 := by omega
     have i1 : (m : Int) - 1 < (len : Int) := by omega
     obtain ⟨c1, c2⟩ := Hc.out (m - 1) (by omega)
     rw [← Hcarry.out] at c1 c2
     by_cases hlt : m < len
     · obtain ⟨d1, d2⟩ := Hc.out m hlt
       rw [← Hcarry.out] at d1 d2
       have hmm : m - 1 + 1 = m := by omega
       have HX0 := bendGo_here (l := l) (k := m - 1) (x := x) (by rw [HR.out.size]; omega)
       have HY0 := bendGo_step (l := l) (k := m - 1) (x := x) (by rw [HR.out.size]; omega)
       have gp := HB.out.good (m - 1) (by rw [HR.out.size]; omega)
       have gq := HB.out.good m (by rw [HR.out.size]; omega)
       have hr := HB.out.rise (m - 1) (by rw [HR.out.size]; omega)
       rw [hmm] at HX0 HY0 hr
       have HX := Lib.hid HX0; have HY := Lib.hid HY0
       clear HX0 HY0 hmm
       obtain ⟨p, hp⟩ : ∃ p, p = l.getD (m - 1) (0, 0) := ⟨_, rfl⟩
       obtain ⟨q, hq⟩ : ∃ q, q = l.getD m (0, 0) := ⟨_, rfl⟩
       rw [← hp] at c1 c2 HX gp hr hkx
       rw [← hq] at d1 d2 HX HY gq hr
       obtain ⟨px, py⟩ := p
       obtain ⟨qx, qy⟩ := q
       simp only [ptBad, not_or, Int.not_lt] at gp gq
       simp only at c1 c2 d1 d2 hr hkx
       have Hp := Lib.hid hp; have Hq := Lib.hid hq
       clear hp hq
       obtain ⟨gp1, gp2, gp3, gp4⟩ := gp
       obtain ⟨gq1, gq2, gq3, gq4⟩ := gq
       have j3 : (m : Int) < (len : Int) := by omega
       have hW : (qx - px == 0) = false := by simp; omega
       by_cases hx : x < qx
       · have HZ0 := HX.out hx
         simp only at HZ0
         by_cases hup : py ≤ qy
         · have HZ := Lib.hid HZ0
           clear HZ0
           obtain ⟨m0, m1⟩ := mul_small (a := qy - py) (b := x - px) (by omega) (by omega) (by omega) (by omega)
           obtain ⟨t1, t2, t3⟩ := div_small (a := (qy - py) * (x - px)) (b := qx - px) m0 (by omega) (by omega)
           obtain ⟨M, hM⟩ : ∃ M, M = (qy - py) * (x - px) := ⟨_, rfl⟩
           rw [← hM] at m0 m1 t1 t2 t3 HZ
           have hMe : (qy - py) * (x - px) = M := hM.symm
           clear hM
           have w1 : wrap64 M = M := IntWalk.wrap64_in _ ⟨by omega, by omega⟩
           have w2 : IntKind.i64.wrap M = M := IntWalk.i64_in _ ⟨by omega, by omega⟩
           generalize hD : M / (qx - px) = D at *
           clear hD
           have w3 : wrap64 D = D := IntWalk.wrap64_in _ ⟨by omega, by omega⟩
           have w4 : IntKind.i64.wrap D = D := IntWalk.i64_in _ ⟨by omega, by omega⟩
           have v1 : IntKind.i64.wrap (qx - px) = qx - px := IntWalk.i64_in _ ⟨by omega, by omega⟩
           have v2 : IntKind.i64.wrap (qy - py) = qy - py := IntWalk.i64_in _ ⟨by omega, by omega⟩
           have v3 : IntKind.i64.wrap (x - px) = x - px := IntWalk.i64_in _ ⟨by omega, by omega⟩
           have v4 : IntKind.i64.wrap (py + D) = py + D := IntWalk.i64_in _ ⟨by omega, by omega⟩
           have v5 : IntKind.i64.wrap ((m : Int) - 1) = (m : Int) - 1 := IntWalk.i64_in _ ⟨by omega, by omega⟩
           go_wp2_with fail
           go_quiet (fail)
           go_wp2_with fail
           go_quiet (fail)
           go_wp2_with fail
           go_quiet (fail)
           go_wp2_with fail
           go_ret
           exact ⟨by rw [Hv.out, HZ.out]; rfl, by first | exact (((Hbel.out.alloc Hbel.out.size _).drewN _).drewN _).drewN _ | exact (Hbel.out.alloc Hbel.out.size _).drewN _⟩
         · rw [bend_fall (p := (px, py)) (q := (qx, qy)) (x := x) (by simp only; omega)] at HZ0
           simp only at HZ0
           have HZ := Lib.hid HZ0
           clear HZ0
           have hdn : qy < py := by omega
           clear hup
           obtain ⟨m0, m1⟩ := mul_small (a := py - qy) (b := x - px) (by omega) (by omega) (by omega) (by omega)
           obtain ⟨t1, t2, t3⟩ := div_small (a := (py - qy) * (x - px) + (qx - px) - 1) (b := qx - px) (by omega) (by omega) (by omega)
           obtain ⟨M, hM⟩ : ∃ M, M = (py - qy) * (x - px) := ⟨_, rfl⟩
           rw [← hM] at m0 m1 t1 t2 t3 HZ
           have hMe : (py - qy) * (x - px) = M := hM.symm
           clear hM
           have w1 : wrap64 M = M := IntWalk.wrap64_in _ ⟨by omega, by omega⟩
           have w2 : IntKind.i64.wrap M = M := IntWalk.i64_in _ ⟨by omega, by omega⟩
           generalize hD : (M + (qx - px) - 1) / (qx - px) = D at *
           clear hD
           have w3 : wrap64 D = D := IntWalk.wrap64_in _ ⟨by omega, by omega⟩
           have w4 : IntKind.i64.wrap D = D := IntWalk.i64_in _ ⟨by omega, by omega⟩
           have v1 : IntKind.i64.wrap (qx - px) = qx - px := IntWalk.i64_in _ ⟨by omega, by omega⟩
           have v2 : IntKind.i64.wrap (py - qy) = py - qy := IntWalk.i64_in _ ⟨by omega, by omega⟩
           have v3 : IntKind.i64.wrap (x - px) = x - px := IntWalk.i64_in _ ⟨by omega, by omega⟩
           have v4 : IntKind.i64.wrap (py - D) = py - D := IntWalk.i64_in _ ⟨by omega, by omega⟩
           have v5 : IntKind.i64.wrap ((m : Int) - 1) = (m : Int) - 1 := IntWalk.i64_in _ ⟨by omega, by omega⟩
           have v6 : IntKind.i64.wrap (M + (qx - px)) = M + (qx - px) := IntWalk.i64_in _ ⟨by omega, by omega⟩
           have v7 : IntKind.i64.wrap (M + (qx - px) - 1) = M + (qx - px) - 1 := IntWalk.i64_in _ ⟨by omega, by omega⟩
           go_wp2_with fail
           go_quiet (fail)
           go_wp2_with fail
           go_quiet (fail)
           go_wp2_with fail
           go_quiet (fail)
           go_wp2_with fail
           go_ret
           exact ⟨by rw [Hv.out, HZ.out]; rfl, by first | exact (((Hbel.out.alloc Hbel.out.size _).drewN _).drewN _).drewN _ | exact (Hbel.out.alloc Hbel.out.size _).drewN _⟩
       · have HZ := Lib.hid (HY.out (by simpa using hx))
         go_wp2_with fail
         go_roundw
         case rel => exact ⟨m + 1, by omega, by omega, by go_num, Hbel.out, by rw [Hv.out, HZ.out]; rfl, by rw [Nat.add_sub_cancel, ← Hq.out]; simp only; omega⟩
         case measure => simp [intOf]; omega
     · obtain rfl : m = len := by omega
       have HL := Lib.hid (bendGo_last (l := l) (k := m - 1) (x := x) (by rw [HR.out.size]; omega))
       clear hlt
       go_wp2_with fail
       go_ret
       exact ⟨by rw [Hv.out, HL.out]; rfl, Hbel.out⟩
end Go.Proofs.YtajnfkmkombajaaGreatDoor
namespace Go.Proofs.YtajnfkmkombajaaGreatDoor
open Go.RowKit
theorem bonus_doc {b r : Int} (h : rateOk r b) : bonusN b r = (if (if 520000 < r then (if r < 480000 then b + 100 else b) - 100 else (if r < 480000 then b + 100 else b)) > 5000 then 5000 else if (if 520000 < r then (if r < 480000 then b + 100 else b) - 100 else (if r < 480000 then b + 100 else b)) < 0 then 0 else (if 520000 < r then (if r < 480000 then b + 100 else b) - 100 else (if r < 480000 then b + 100 else b))) := by
 unfold bonusN; rw [if_pos h]
 obtain ⟨h1, h2, h3, h4⟩ := h
 by_cases c1 : r < 480000 <;> by_cases c2 : 520000 < r <;> simp only [c1, c2, if_true, if_false]
 · omega
 all_goals (split <;> (try split) <;> omega)
end Go.Proofs.YtajnfkmkombajaaGreatDoor
namespace Go.Proofs.YtajnfkmkombajaaGreatDoor
open Go.RowKit
theorem ref_RatioOf (s p : Int) (w : World) :
   Calls Tryz.prog 131 #[.int .i64 s, .int .i64 p] w fun e w' => e = .returned (.tuple #[.int .i64 (ratioN s p), .int .i64 (ratioC s p)]) ∧ w = w' := by
 by_cases h : ratioOk s p
 · have HC : Hid (ratioC s p = 0) := (by unfold ratioC; rw [if_pos h] : ratioC s p = 0)
   have HN0 : ratioN s p = s * 1000000 / p := (by unfold ratioN; rw [if_pos h] : ratioN s p = s * 1000000 / p)
   obtain ⟨-, -, -, ho⟩ := ratio_over h
   obtain ⟨h0, h1, h3, h4⟩ := h
   have a1 : amtB s = true := amtB_iff.2 (by omega)
   have a2 : amtB p = true := amtB_iff.2 (by omega)
   obtain ⟨a, rfl⟩ := Int.eq_ofNat_of_zero_le h0
   obtain ⟨c, rfl⟩ := Int.eq_ofNat_of_zero_le (show 0 ≤ p by omega)
   have e1 : ((a : Int) * 1000000 / c) = ((a * 1000000 / c : Nat) : Int) := by simp
   have HP := Lib.hid (ref_Product a 1000000 c (by omega) (by omega) (by omega) (by omega))
   rw [e1] at ho HN0
   have hq : a * 1000000 / c ≤ 1125899906842624 := by clear HP HN0 e1; generalize a * 1000000 / c = z at ho ⊢; omega
   have HV := Lib.hid (rprod_yes hq)
   have HN := Lib.hid HN0
   have hpe : ((c : Int) == 0) = false := by simp; omega
   have d1 : decide ((c : Int) < (a : Int)) = false := decide_eq_false (by omega)
   have d2 : decide (c < a) = false := decide_eq_false (by omega)
   clear HN0 e1 ho hq
   generalize a * 1000000 / c = q at *
   generalize a * 1000000 % c = r at *
   go_enter Tryz.func131, Tryz.ntmps131
   go_wp2_with (first | (go_at_call 60; refine (refb_IsAmount _ _).mono ?_; rintro e w' ⟨rfl, rfl⟩) | (go_at_call 62; refine (HP.out _).mono ?_; rintro e w' ⟨rfl, rfl⟩; rw [HV.out]))
   go_ret2
   exact ⟨by rw [HC.out, HN.out]; rfl, rfl⟩
 · have HC : Hid (ratioC s p = 2) := (by unfold ratioC; rw [if_neg h] : ratioC s p = 2)
   have HN : Hid (ratioN s p = 0) := (by unfold ratioN; rw [if_neg h] : ratioN s p = 0)
   cases a1 : amtB s with
   | false =>
     clear h
     go_enter Tryz.func131, Tryz.ntmps131
     go_wp2_with (go_at_call 60; refine (refb_IsAmount _ _).mono ?_; rintro e w' ⟨rfl, rfl⟩)
     go_ret2
     exact ⟨by rw [HC.out, HN.out]; rfl, rfl⟩
   | true =>
   cases a2 : amtB p with
   | false =>
     clear h
     go_enter Tryz.func131, Tryz.ntmps131
     go_wp2_with (go_at_call 60; refine (refb_IsAmount _ _).mono ?_; rintro e w' ⟨rfl, rfl⟩)
     go_ret2
     exact ⟨by rw [HC.out, HN.out]; rfl, rfl⟩
   | true =>
   obtain ⟨s0, s1⟩ := amtB_iff.1 a1
   obtain ⟨p0, p1⟩ := amtB_iff.1 a2
   by_cases hp : p = 0
   · clear h
     subst hp
     go_enter Tryz.func131, Tryz.ntmps131
     go_wp2_with (go_at_call 60; refine (refb_IsAmount _ _).mono ?_; rintro e w' ⟨rfl, rfl⟩)
     go_ret2
     exact ⟨by rw [HC.out, HN.out]; rfl, rfl⟩
   · have c3 : p < s := Int.not_le.1 fun hb => h ⟨by omega, by omega, by omega, by omega⟩
     have hpe : (p == 0) = false := by simp [hp]
     clear h hp
     go_enter Tryz.func131, Tryz.ntmps131
     go_wp2_with (go_at_call 60; refine (refb_IsAmount _ _).mono ?_; rintro e w' ⟨rfl, rfl⟩)
     go_ret2
     exact ⟨by rw [HC.out, HN.out]; rfl, rfl⟩
set_option maxRecDepth 8000 in
theorem ref_RateOf (r b : Int) (w : World) (h : rateOk r b) :
   Calls Tryz.prog 73 #[.int .i64 r, .int .i64 b] w fun e w' => e = .returned (.int .i64 (rateN r b)) ∧ Below w.heap.size w w' := by
 have HN : Hid (rateN r b = bendV rateL r + b) := (by unfold rateN; rw [if_pos h] : rateN r b = bendV rateL r + b)
 obtain ⟨h0, h1, h4, h5⟩ := h
 obtain ⟨n0, n1⟩ := rateL_bounds h0 h1
 have hc : ∀ t o v, #[Value.int .i64 0, Value.int .i64 40000, Value.int .i64 250000, Value.int .i64 20000, Value.int .i64 500000, Value.int .i64 10000, Value.int .i64 1000000, Value.int .i64 5000][o]? = some v → (w.alloc (.cells #[Value.int .i64 0, Value.int .i64 40000, Value.int .i64 250000, Value.int .i64 20000, Value.int .i64 500000, Value.int .i64 10000, Value.int .i64 1000000, Value.int .i64 5000] t)).cell? ⟨w.heap.size, o, none⟩ = some v := fun t o v h => by
   rw [World.cell?_alloc_new]; exact h
 have HR : ∀ t, RdP (w.alloc (.cells #[Value.int .i64 0, Value.int .i64 40000, Value.int .i64 250000, Value.int .i64 20000, Value.int .i64 500000, Value.int .i64 10000, Value.int .i64 1000000, Value.int .i64 5000] t)) (some ⟨w.heap.size, 0, none⟩) 4 4 rateL := fun t =>
   ⟨rfl, Nat.le_refl _, by decide, fun h => (by cases h), fun p hp => by
     simp only [rateL, List.mem_cons, List.not_mem_nil, or_false] at hp
     rcases hp with rfl | rfl | rfl | rfl <;> decide, fun i hi => ⟨_, _, rfl, by
       have : i = 0 ∨ i = 1 ∨ i = 2 ∨ i = 3 := by omega
       rcases this with rfl | rfl | rfl | rfl <;> exact hc _ _ _ rfl, by
       have : i = 0 ∨ i = 1 ∨ i = 2 ∨ i = 3 := by omega
       rcases this with rfl | rfl | rfl | rfl <;> exact hc _ _ _ rfl⟩⟩
 have HR' := Lib.hid HR; clear HR hc
 have HB : Hid (∀ t, Calls Tryz.prog 130 #[.slice (some ⟨w.heap.size, 0, none⟩) 4 4, .int .i64 r] (w.alloc (.cells #[Value.int .i64 0, Value.int .i64 40000, Value.int .i64 250000, Value.int .i64 20000, Value.int .i64 500000, Value.int .i64 10000, Value.int .i64 1000000, Value.int .i64 5000] t)) fun e w' => e = .returned (.int .i64 (bendV rateL r)) ∧ Below w.heap.size w w') :=
   fun t => (ref_BendOf _ _ _ _ rateL r _ (HR'.out t) rateL_right h0 h1).mono fun e w' ⟨he, hb⟩ => ⟨he, btrans ((Below.refl _ w).alloc (Nat.le_refl _) _) hb⟩
 clear HR'
 generalize bendV rateL r = n at *
 go_enter Tryz.func73, Tryz.ntmps73
 go_wp2_with fail
 refine (HB.out _).mono ?_
 rintro e w' ⟨rfl, hb⟩
 go_wp2
 go_ret
 exact ⟨by rw [HN.out]; rfl, hb⟩
theorem ref_BonusOf (b r : Int) (w : World) (h : rateOk r b) :
   Calls Tryz.prog 136 #[.int .i64 b, .int .i64 r] w fun e w' => e = .returned (.int .i64 (bonusN b r)) ∧ w = w' := by
 have HN := Lib.hid (bonus_doc h)
 obtain ⟨h0, h1, h2, h3⟩ := h
 have hways : (r < 480000 ∧ b + 100 ≤ 5000) ∨ (r < 480000 ∧ 5000 < b + 100) ∨ (480000 ≤ r ∧ r ≤ 520000) ∨ (520000 < r ∧ b - 100 < 0) ∨ (520000 < r ∧ 0 ≤ b - 100) := by omega
 rcases hways with ⟨c1, c2⟩ | ⟨c1, c2⟩ | ⟨c1, c2⟩ | ⟨c1, c2⟩ | ⟨c1, c2⟩
 all_goals
   have e : (if (if 520000 < r then (if r < 480000 then b + 100 else b) - 100 else (if r < 480000 then b + 100 else b)) > 5000 then 5000 else if (if 520000 < r then (if r < 480000 then b + 100 else b) - 100 else (if r < 480000 then b + 100 else b)) < 0 then 0 else (if 520000 < r then (if r < 480000 then b + 100 else b) - 100 else (if r < 480000 then b + 100 else b))) = (if r < 480000 then (if b + 100 ≤ 5000 then b + 100 else 5000) else if r ≤ 520000 then b else if b - 100 < 0 then 0 else b - 100) := by
     repeat' split
     all_goals omega
   have HN2 := Lib.hid (HN.out.trans e)
   clear HN e
   go_enter Tryz.func136, Tryz.ntmps136
   go_wp2
   go_ret
   refine ⟨?_, rfl⟩
   rw [HN2.out]
   repeat' split
   all_goals (first | rfl | omega)
theorem ref_RewardOf (s r : Int) (w : World) :
   Calls Tryz.prog 72 #[.int .i64 s, .int .i64 r] w fun e w' => e = .returned (.tuple #[.int .i64 (rewardN s r), .int .i64 (rewardC s r)]) ∧ w = w' := by
 by_cases h : rewardOk s r
 · have HC : Hid (rewardC s r = 0) := (by unfold rewardC; rw [if_pos h] : rewardC s r = 0)
   have HN0 : rewardN s r = s * r / 1000000 / 4 := (by unfold rewardN; rw [if_pos h] : rewardN s r = s * r / 1000000 / 4)
   obtain ⟨-, -, -, ho⟩ := reward_over h
   obtain ⟨⟨h0, h1⟩, h3, h4⟩ := h
   have a1 : amtB s = true := amtB_iff.2 (by omega)
   obtain ⟨a, rfl⟩ := Int.eq_ofNat_of_zero_le h0
   obtain ⟨b, rfl⟩ := Int.eq_ofNat_of_zero_le h3
   have e1 : ((a : Int) * b / 1000000) = ((a * b / 1000000 : Nat) : Int) := by simp
   have HP := Lib.hid (ref_Product a b 1000000 (by omega) (by omega) (by omega) (by omega))
   rw [e1] at ho HN0
   have hq : a * b / 1000000 ≤ 1125899906842624 := by clear HP HN0 e1; generalize a * b / 1000000 = z at ho ⊢; omega
   have HV := Lib.hid (rprod_yes hq)
   have HN := Lib.hid HN0
   clear HN0 e1 ho
   generalize a * b / 1000000 = q at *
   generalize a * b % 1000000 = m at *
   have hqd : (q : Int).tdiv 4 = (q : Int) / 4 := rfl
   go_enter Tryz.func72, Tryz.ntmps72
   go_wp2_with (first | (go_at_call 60; refine (refb_IsAmount _ _).mono ?_; rintro e w' ⟨rfl, rfl⟩) | (go_at_call 62; refine (HP.out _).mono ?_; rintro e w' ⟨rfl, rfl⟩; rw [HV.out]))
   go_ret2
   exact ⟨by rw [HC.out, HN.out]; rfl, rfl⟩
 · have HC : Hid (rewardC s r = 2) := (by unfold rewardC; rw [if_neg h] : rewardC s r = 2)
   have HN : Hid (rewardN s r = 0) := (by unfold rewardN; rw [if_neg h] : rewardN s r = 0)
   cases a1 : amtB s with
   | false =>
     clear h
     go_enter Tryz.func72, Tryz.ntmps72
     go_wp2_with (go_at_call 60; refine (refb_IsAmount _ _).mono ?_; rintro e w' ⟨rfl, rfl⟩)
     go_ret2
     exact ⟨by rw [HC.out, HN.out]; rfl, rfl⟩
   | true =>
   obtain ⟨s0, s1⟩ := amtB_iff.1 a1
   have hw : r < 0 ∨ (0 ≤ r ∧ 1000000 < r) := by
     have : ¬ ((0 ≤ s ∧ s ≤ 1125899906842624) ∧ 0 ≤ r ∧ r ≤ 1000000) := h
     omega
   clear h
   rcases hw with c0 | ⟨c0, c1⟩
   all_goals
     go_enter Tryz.func72, Tryz.ntmps72
     go_wp2_with (go_at_call 60; refine (refb_IsAmount _ _).mono ?_; rintro e w' ⟨rfl, rfl⟩)
     go_ret2
     exact ⟨by rw [HC.out, HN.out]; rfl, rfl⟩
end Go.Proofs.YtajnfkmkombajaaGreatDoor
namespace Go.Proofs.YtajnfkmkombajaaGreatDoor
open Go.RowKit
theorem list_ext_getD {α : Type} (d : α) {a b : List α} (hl : a.length = b.length) (h : ∀ k, k < a.length → a.getD k d = b.getD k d) : a = b := by
 apply List.ext_getElem hl
 intro i h1 h2
 have := h i h1
 simpa [List.getD_eq_getElem?_getD, h1, h2] using this
theorem VS.final_start (w : List Int) : (VS.start w).final w.sum = (List.range w.length).map fun k : Nat => (w.sum, (k : Int)) := by
 apply list_ext_getD (0, 0)
 · simp [VS.final, ownCols_length, VS.start]
 · intro k hk
   have hk' : k < w.length := by simpa [VS.final, ownCols_length, VS.start] using hk
   have hm := (mem_start w k).2 hk'
   unfold VS.final
   rw [ownCols_getD _ _ _ _ (by simpa [VS.start] using hk'), if_pos hm]
   simp [List.getD_eq_getElem?_getD, hk']
theorem VS.final_length {w : List Int} {v : VS} (I : v.Inv w) : (v.final w.sum).length = w.length := by
 unfold VS.final; rw [ownCols_length, I.cl]
theorem VS.final_step {w : List Int} {v : VS} (I : v.Inv w) {s g : Nat} {sm gr : List Nat} (hs : v.small = s :: sm) (hg : v.great = g :: gr) : (v.step w.sum).final w.sum = (v.final w.sum).set s (v.rest.getD s 0, (g : Int)) := by
 have I' := I.step
 have hnd := I.nodup
 rw [hs, hg] at hnd
 have hsn : s < w.length := I.lt s (by rw [hs]; simp)
 have hs1 : s ∉ sm ++ g :: gr := by simpa using (List.nodup_cons.1 hnd).1
 have hcols : (v.step w.sum).cols = v.cols.set s (v.rest.getD s 0, (g : Int)) := by
   unfold VS.step; rw [hs, hg]; simp only; split <;> rfl
 have hmem : ∀ k, k ∈ (v.step w.sum).small ++ (v.step w.sum).great ↔ k ∈ sm ++ g :: gr := by
   intro k; unfold VS.step; rw [hs, hg]; simp only; split
   · simp only [List.mem_append, List.mem_cons, List.mem_nil_iff, or_false]
     constructor
     · rintro ((h | h) | h)
       · exact .inl h
       · exact .inr (.inl h)
       · exact .inr (.inr h)
     · rintro (h | h | h)
       · exact .inl (.inl h)
       · exact .inl (.inr h)
       · exact .inr h
   · exact Iff.rfl
 apply list_ext_getD (0, 0)
 · rw [VS.final_length I', List.length_set, VS.final_length I]
 · intro k hk
   rw [VS.final_length I'] at hk
   unfold VS.final
   rw [ownCols_getD _ _ _ _ (by rw [I'.cl]; exact hk), hcols]
   by_cases hks : s = k
   · subst hks
     rw [if_neg (fun h => hs1 ((hmem s).1 h)), getD_set_same _ _ _ _ (by rw [I.cl]; exact hk), getD_set_same _ _ _ _ (by rw [ownCols_length, I.cl]; exact hk)]
   · rw [getD_set_other _ _ _ _ _ hks, getD_set_other _ _ _ _ _ hks, ownCols_getD _ _ _ _ (by rw [I.cl]; exact hk)]
     have e : (k ∈ (v.step w.sum).small ++ (v.step w.sum).great) ↔ (k ∈ v.small ++ v.great) := by
       rw [hmem, hs, hg]; simp only [List.cons_append, List.mem_cons]; exact ⟨fun h => .inr h, fun h => h.resolve_left (fun e => hks e.symm)⟩
     by_cases hk2 : k ∈ v.small ++ v.great
     · rw [if_pos (e.2 hk2), if_pos hk2]
     · rw [if_neg (fun h => hk2 (e.1 h)), if_neg hk2]
end Go.Proofs.YtajnfkmkombajaaGreatDoor
