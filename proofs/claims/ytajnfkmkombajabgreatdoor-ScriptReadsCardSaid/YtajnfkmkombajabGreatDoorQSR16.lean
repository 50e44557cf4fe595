/-
  A chain of package chain in memory: how it lies; steps of its parts.
  append onto a slice of the call's own, of whatever slice of numbers. No program in sight.
-/
import Derived.Test.YtajnfkmkombajabGreatDoorQSR13
import Derived.Test.YtajnfkmkombajabGreatDoorQSR14
import Derived.Test.YtajnfkmkombajabGreatDoorQSR15
import Derived.Laws.AppendOwnNone
set_option linter.unusedVariables false
set_option linter.unusedSimpArgs false
set_option linter.unusedVariables false
namespace Go.Proofs.YtajnfkmkombajabGreatDoor
open Go.RowKit Go.Maps

/-- the pictures: a slice of slices of numbers, among the blocks F -/
structure PicsAt (F : Nat → Prop) (pv : Value) (pics : List (List Int)) (w : World) : Prop where
  own : ∃ vs, OwnSl 0 58 pv vs w ∧ vs.length = pics.length ∧ ∀ (i : Nat) v z, vs[i]? = some v → pics[i]? = some z → ∃ ao cap, v = .slice ao z.length cap ∧ RdI .i64 w ao z.length cap z ∧ ∀ a, ao = some a → F a.block ∧ pv.ownBlock ≠ some a.block
  blk : ∀ g, pv.ownBlock = some g → F g
theorem PicsAt.keep {F G : Nat → Prop} {pv : Value} {pics : List (List Int)} {w w' : World} (h : PicsAt F pv pics w) (K : Keep G w w') (hG : ∀ b, F b → ¬ G b) : PicsAt F pv pics w' := by
  obtain ⟨vs, h1, h2, h3⟩ := h.own
  refine ⟨⟨vs, h1.keep K (fun g hg => hG g (h.blk g hg)), h2, fun i v z hv hz => ?_⟩, h.blk⟩
  obtain ⟨ao, cap, e, R, hb⟩ := h3 i v z hv hz
  exact ⟨ao, cap, e, R.keep K (fun a ha => hG _ (hb a ha).1), hb⟩
theorem PicsAt.mono {F G : Nat → Prop} {pv : Value} {pics : List (List Int)} {w : World} (h : PicsAt F pv pics w) (hG : ∀ b, F b → G b) : PicsAt G pv pics w := by
  obtain ⟨vs, h1, h2, h3⟩ := h.own
  refine ⟨⟨vs, h1, h2, fun i v z hv hz => ?_⟩, fun g hg => hG g (h.blk g hg)⟩
  obtain ⟨ao, cap, e, R, hb⟩ := h3 i v z hv hz
  exact ⟨ao, cap, e, R, fun a ha => ⟨hG _ (hb a ha).1, (hb a ha).2⟩⟩

/-- where a chain's parts lie -/
structure ChL where
  pb : Nat
  sb : Nat
  kb : Nat
  Fs : Nat → Prop
  Fk : Nat → Prop
  Fp : Nat → Prop
  pv : Value
def ChL.foot (K : ChL) (cb : Nat) (b : Nat) : Prop := b = cb ∨ b = K.pb ∨ K.Fs b ∨ K.Fk b ∨ K.Fp b

def chainVs (K : ChL) (sd : Nat) (x : CS) : List Value :=
  [.pointer (some ⟨K.pb, 0, none⟩), .pointer (some ⟨K.sb, 0, none⟩), .pointer (some ⟨K.kb, 0, none⟩), .int .u64 sd, .int .i64 x.cycle, .int .i64 x.level, .int .i64 x.bonus, K.pv]
structure ChainL (cb : Nat) (K : ChL) (n : Nat) (sd : Nat) (x : CS) (w : World) : Prop where
  row : RowAt cb 54 (chainVs K sd x) w
  purse : PurseAt K.pb x.p w
  st : StakesAt K.sb K.Fs n x.s w
  ct : CourtAt K.kb K.Fk n x.k w
  pics : PicsAt K.Fp K.pv x.pics w
  pl : ∀ b, K.Fp b → b < w.heap.size
  d0 : cb ≠ K.pb ∧ ¬ K.Fs cb ∧ ¬ K.Fk cb ∧ ¬ K.Fp cb
  d1 : ¬ K.Fs K.pb ∧ ¬ K.Fk K.pb ∧ ¬ K.Fp K.pb
  d2 : ∀ b, K.Fs b → ¬ K.Fk b ∧ ¬ K.Fp b
  d3 : ∀ b, K.Fk b → ¬ K.Fp b

section
variable {cb n m sd : Nat} {K : ChL} {x : CS} {w w' : World}
theorem ChainL.cell (h : ChainL cb K n sd x w) (i : Nat) : w.cell? ⟨cb, i, none⟩ = (chainVs K sd x)[i]? := h.row.cell i
theorem ChainL.keep {G : Nat → Prop} (h : ChainL cb K n sd x w) (k : Keep G w w') (hG : ∀ b, K.foot cb b → ¬ G b) : ChainL cb K n sd x w' :=
  ⟨h.row.keep k (hG _ (.inl rfl)), h.purse.keep k (hG _ (.inr (.inl rfl))), h.st.keep k (fun b hb => hG b (.inr (.inr (.inl hb)))), h.ct.keep k (fun b hb => hG b (.inr (.inr (.inr (.inl hb))))),
    h.pics.keep k (fun b hb => hG b (.inr (.inr (.inr (.inr hb))))), fun b hb => Nat.lt_of_lt_of_le (h.pl b hb) k.size, h.d0, h.d1, h.d2, h.d3⟩
theorem ChainL.below (h : ChainL cb K n sd x w) (k : Below w.heap.size w w') : ChainL cb K n sd x w' := h.keep (G := fun _ => False) (Keep.of_below k) (fun _ _ => id)
theorem ChainL.drewN (h : ChainL cb K n sd x w) (j : Nat) : ChainL cb K n sd x (w.drewN j) := h.keep (G := fun _ => False) ((Keep.refl _ _).drewN j) (fun _ _ => id)
theorem ChainL.mono (h : ChainL cb K n sd x w) (hm : n ≤ m) : ChainL cb K m sd x w := ⟨h.row, h.purse, h.st.mono hm, h.ct.mono hm, h.pics, h.pl, h.d0, h.d1, h.d2, h.d3⟩
theorem ChainL.footlt (h : ChainL cb K n sd x w) : ∀ b, K.foot cb b → b < w.heap.size := fun b hb => by
  rcases hb with rfl | rfl | hb | hb | hb
  · exact h.row.lt
  · exact h.purse.lt
  · exact h.st.lt hb
  · exact h.ct.lt b hb
  · exact h.pl b hb
/-- the purse has turned -/
theorem ChainL.purse' (h : ChainL cb K n sd x w) {p : PS} (k : PurseP K.pb p w w') : ChainL cb K n sd { x with p := p } w' :=
  ⟨h.row.keep k.1 h.d0.1, k.2, h.st.keep k.1 (fun b hb e => by subst e; exact h.d1.1 hb), h.ct.keep k.1 (fun b hb e => by subst e; exact h.d1.2.1 hb), h.pics.keep k.1 (fun b hb e => by subst e; exact h.d1.2.2 hb),
    fun b hb => Nat.lt_of_lt_of_le (h.pl b hb) k.1.size, h.d0, h.d1, h.d2, h.d3⟩
def ChL.withS (K : ChL) (w w' : World) : ChL := { K with Fs := grownF K.Fs w w' }
def ChL.withK (K : ChL) (w w' : World) : ChL := { K with Fk := grownF K.Fk w w' }
/-- the stakes have turned -/
theorem ChainL.stakes' (h : ChainL cb K n sd x w) {s : SS} (hm : n ≤ m) (k : StakesP K.sb K.Fs m s w w') : ChainL cb (K.withS w w') m sd { x with s := s } w' := by
  have hc := h.row.lt; have hp := h.purse.lt
  refine ⟨h.row.keep k.1 h.d0.2.1, h.purse.keep k.1 h.d1.1, k.2, (h.ct.mono hm).keep k.1 (fun b hb hf => (h.d2 b hf).1 hb), h.pics.keep k.1 (fun b hb hf => (h.d2 b hf).2 hb), fun b hb => Nat.lt_of_lt_of_le (h.pl b hb) k.1.size,
    ⟨h.d0.1, fun hf => ?_, h.d0.2.2⟩, ⟨fun hf => ?_, h.d1.2⟩, fun b hf => ?_, h.d3⟩
  · rcases hf with hf | hf
    · exact h.d0.2.1 hf
    · omega
  · rcases hf with hf | hf
    · exact h.d1.1 hf
    · have : K.pb < w.heap.size := hp
      have : w.heap.size ≤ K.pb := hf.1
      omega
  · rcases hf with hf | hf
    · exact h.d2 b hf
    · exact ⟨fun hb => by have := h.ct.lt b hb; omega, fun hb => by have := h.pl b hb; omega⟩
/-- the court has turned -/
theorem ChainL.court' (h : ChainL cb K n sd x w) {c : KS} (hm : n ≤ m) (k : CourtP K.kb K.Fk m c w w') : ChainL cb (K.withK w w') m sd { x with k := c } w' := by
  have hc := h.row.lt; have hp := h.purse.lt
  refine ⟨h.row.keep k.1 h.d0.2.2.1, h.purse.keep k.1 h.d1.2.1, (h.st.mono hm).keep k.1 (fun b hb hf => (h.d2 b hb).1 hf), k.2, h.pics.keep k.1 (fun b hb hf => h.d3 b hf hb), fun b hb => Nat.lt_of_lt_of_le (h.pl b hb) k.1.size,
    ⟨h.d0.1, h.d0.2.1, fun hf => ?_, h.d0.2.2.2⟩, ⟨h.d1.1, fun hf => ?_, h.d1.2.2⟩, fun b hb => ⟨fun hf => ?_, (h.d2 b hb).2⟩, fun b hf => ?_⟩
  · rcases hf with hf | hf
    · exact h.d0.2.2.1 hf
    · omega
  · rcases hf with hf | hf
    · exact h.d1.2.1 hf
    · have : K.pb < w.heap.size := hp
      have : w.heap.size ≤ K.pb := hf.1
      omega
  · rcases hf with hf | hf
    · exact (h.d2 b hb).1 hf
    · have := h.st.lt hb; omega
  · rcases hf with hf | hf
    · exact h.d3 b hf
    · exact fun hb => by have := h.pl b hb; omega
end

/-- block cb is a chain of seed sd that holds x, among the blocks F -/
def ChainAt (cb : Nat) (F : Nat → Prop) (n sd : Nat) (x : CS) (w : World) : Prop := ∃ K, ChainL cb K n sd x w ∧ (∀ b, K.foot cb b → F b) ∧ ∀ b, F b → b < w.heap.size
def ChainP (cb : Nat) (F : Nat → Prop) (n sd : Nat) (x : CS) (w w' : World) : Prop := Keep F w w' ∧ ChainAt cb (grownF F w w') n sd x w'

section
variable {cb n m sd : Nat} {F G : Nat → Prop} {x : CS} {w w' : World}
theorem ChainAt.keep (h : ChainAt cb F n sd x w) (k : Keep G w w') (hG : ∀ b, F b → ¬ G b) : ChainAt cb F n sd x w' := by
  obtain ⟨K, h1, h2, h3⟩ := h
  exact ⟨K, h1.keep k (fun b hb => hG b (h2 b hb)), h2, fun b hb => Nat.lt_of_lt_of_le (h3 b hb) k.size⟩
theorem ChainAt.below (h : ChainAt cb F n sd x w) (k : Below w.heap.size w w') : ChainAt cb F n sd x w' := h.keep (G := fun _ => False) (Keep.of_below k) (fun _ _ => id)
theorem ChainAt.mono (h : ChainAt cb F n sd x w) (hm : n ≤ m) : ChainAt cb F m sd x w := by
  obtain ⟨K, h1, h2, h3⟩ := h
  exact ⟨K, h1.mono hm, h2, h3⟩
theorem ChainAt.lt (h : ChainAt cb F n sd x w) : ∀ b, F b → b < w.heap.size := by obtain ⟨K, h1, h2, h3⟩ := h; exact h3
theorem ChainP.of_below (h : ChainAt cb F n sd x w) (hb : Below w.heap.size w w') : ChainP cb F n sd x w w' := by
  obtain ⟨K, h1, h2, h3⟩ := h
  exact ⟨Keep.of_below hb, K, h1.below hb, fun b hk => .inl (h2 b hk), grownF_lt h3 hb.size⟩
theorem ChainP.mono (h : ChainP cb F n sd x w w') (hm : n ≤ m) : ChainP cb F m sd x w w' := ⟨h.1, h.2.mono hm⟩
end

/-- since world W: a step of a chain that is under way. K0 where the call began, K now. -/
structure ChGo (W : World) (F : Nat → Prop) (cb : Nat) (K : ChL) (n sd : Nat) (x : CS) (w : World) : Prop where
  keep : Keep F W w
  ch : ChainL cb K n sd x w
  foot : ∀ b, K.foot cb b → F b ∨ (W.heap.size ≤ b ∧ b < w.heap.size)
  Flt : ∀ b, F b → b < W.heap.size
section
variable {cb n m sd : Nat} {F : Nat → Prop} {K : ChL} {x : CS} {W w w' : World}
theorem ChGo.start (h : ChainL cb K n sd x w) (hF : ∀ b, K.foot cb b → F b) (hl : ∀ b, F b → b < w.heap.size) : ChGo w F cb K n sd x w := ⟨Keep.refl _ _, h, fun b hb => .inl (hF b hb), hl⟩
theorem ChGo.stop (h : ChGo W F cb K n sd x w) : ChainP cb F n sd x W w := ⟨h.keep, K, h.ch, h.foot, grownF_lt h.Flt h.keep.size⟩
theorem ChGo.below (h : ChGo W F cb K n sd x w) (k : Below w.heap.size w w') : ChGo W F cb K n sd x w' :=
  ⟨h.keep.trans (Keep.of_below k), h.ch.below k, fun b hb => (h.foot b hb).imp id (fun ⟨a, c⟩ => ⟨a, Nat.lt_of_lt_of_le c k.size⟩), h.Flt⟩
theorem ChGo.drewN (h : ChGo W F cb K n sd x w) (j : Nat) : ChGo W F cb K n sd x (w.drewN j) := h.below ((Below.refl _ _).drewN j)
theorem ChGo.dr (h : ChGo W F cb K n sd x w) (k : Dr w w') : ChGo W F cb K n sd x w' := by obtain ⟨j, rfl⟩ := k; exact h.drewN j
theorem ChGo.mono (h : ChGo W F cb K n sd x w) (hm : n ≤ m) : ChGo W F cb K m sd x w := ⟨h.keep, h.ch.mono hm, h.foot, h.Flt⟩
theorem ChGo.step (h : ChGo W F cb K n sd x w) {G : Nat → Prop} (k : Keep G w w') (hG : ∀ b, G b → K.foot cb b) {K' : ChL} {y : CS} (hc : ChainL cb K' m sd y w') (hf : ∀ b, K'.foot cb b → K.foot cb b ∨ (w.heap.size ≤ b ∧ b < w'.heap.size)) : ChGo W F cb K' m sd y w' := by
  refine ⟨h.keep.andThen k (fun b hb => (h.foot b (hG b hb)).imp id (·.1)), hc, fun b hb => ?_, h.Flt⟩
  have hs := k.size; have hs0 := h.keep.size
  rcases hf b hb with hb | hb
  · rcases h.foot b hb with hb | hb
    · exact .inl hb
    · exact .inr ⟨hb.1, by omega⟩
  · exact .inr ⟨by omega, hb.2⟩
theorem ChGo.purse (h : ChGo W F cb K n sd x w) {p : PS} (k : PurseP K.pb p w w') : ChGo W F cb K n sd { x with p := p } w' :=
  h.step k.1 (fun b hb => .inr (.inl hb)) (h.ch.purse' k) (fun b hb => .inl hb)
theorem ChGo.stakes (h : ChGo W F cb K n sd x w) {s : SS} (hm : n ≤ m) (k : StakesP K.sb K.Fs m s w w') : ChGo W F cb (K.withS w w') m sd { x with s := s } w' :=
  h.step k.1 (fun b hb => .inr (.inr (.inl hb))) (h.ch.stakes' hm k) (fun b hb => by
    rcases hb with hb | hb | hb | hb
    · exact .inl (.inl hb)
    · exact .inl (.inr (.inl hb))
    · rcases hb with hb | hb
      · exact .inl (.inr (.inr (.inl hb)))
      · exact .inr hb
    · exact .inl (.inr (.inr (.inr hb))))
theorem ChGo.court (h : ChGo W F cb K n sd x w) {c : KS} (hm : n ≤ m) (k : CourtP K.kb K.Fk m c w w') : ChGo W F cb (K.withK w w') m sd { x with k := c } w' :=
  h.step k.1 (fun b hb => .inr (.inr (.inr (.inl hb)))) (h.ch.court' hm k) (fun b hb => by
    rcases hb with hb | hb | hb | hb | hb
    · exact .inl (.inl hb)
    · exact .inl (.inr (.inl hb))
    · exact .inl (.inr (.inr (.inl hb)))
    · rcases hb with hb | hb
      · exact .inl (.inr (.inr (.inr (.inl hb))))
      · exact .inr hb
    · exact .inl (.inr (.inr (.inr (.inr hb)))))
/-- one of the chain's own numbers is written -/
theorem ChGo.put (h : ChGo W F cb K n sd x w) {i : Nat} {v : Value} {y : CS} (hv : (chainVs K sd x).set i v = chainVs K sd y) (hp : y.p = x.p) (hs : y.s = x.s) (hk : y.k = x.k) (hc : y.pics = x.pics) : ChGo W F cb K n sd y (w.setCell ⟨cb, i, none⟩ v) := by
  have k : Keep (· = cb) w (w.setCell ⟨cb, i, none⟩ v) := (Keep.refl _ _).put v
  have c := h.ch
  refine h.step k (fun b hb => .inl hb) ⟨?_, ?_, ?_, ?_, ?_, fun b hb => by have := c.pl b hb; simpa [World.setCell] using this, c.d0, c.d1, c.d2, c.d3⟩ (fun b hb => .inl hb)
  · rw [← hv]; exact c.row.set i v
  · rw [hp]; exact c.purse.keep k (fun e => c.d0.1 e.symm)
  · rw [hs]; exact c.st.keep k (fun b hb e => by subst e; exact c.d0.2.1 hb)
  · rw [hk]; exact c.ct.keep k (fun b hb e => by subst e; exact c.d0.2.2.1 hb)
  · rw [hc]; exact c.pics.keep k (fun b hb e => by subst e; exact c.d0.2.2.2 hb)
/-- no error's variable lies among a chain's blocks -/
theorem ChGo.errs {A : Nat → Addr} {S : List Nat} (h : ChGo W F cb K n sd x w) (hE : Errs A S W) (hFE : ∀ c ∈ S, ¬ F (gE c)) : Errs A S w := hE.keep h.keep hFE
theorem ChGo.fs (h : ChGo W F cb K n sd x w) {A : Nat → Addr} {S : List Nat} (hE : Errs A S W) (hFE : ∀ c ∈ S, ¬ F (gE c)) : ∀ c ∈ S, ¬ K.foot cb (gE c) := fun c hc hf => by
  rcases h.foot _ hf with hf | hf
  · exact hFE c hc hf
  · have := World.block_lt_of_cell? W _ (hE.cell c hc)
    simp only at this
    omega
end
end Go.Proofs.YtajnfkmkombajabGreatDoor
namespace Go.Proofs.YtajnfkmkombajabGreatDoor
open Go.RowKit

theorem RdI.of_sl {k : IntKind} {base : Nat} {e : TypeId} {w : World} {ao : Option Addr} {n cap : Nat} {zs : List Int} (h : OwnSl base e (.slice ao n cap) (zs.map (Value.int k)) w) : RdI k w ao zs.length cap zs := by
  rcases h with ⟨hv, hn⟩ | ⟨g, off, cap', cur, hv, hb, hg, h1, h2, h3, h4⟩
  · cases hv
    have : zs = [] := by simpa using hn
    subst this
    exact RdI.nil k w
  · cases hv
    simp only [List.length_map] at h1 h4
    refine ⟨rfl, h1, h2, fun h => (by cases h), fun i hi => ⟨g, off, rfl, ?_⟩⟩
    have := sl_cell h4 hi
    simp only [World.cell?, hg]
    simpa [List.getD_eq_getElem?_getD, hi] using this

theorem run_append_rd {P : Program} (w : World) (t ty : TypeId) (base : Nat) (e : TypeId) (i : TypeInfo) (z : Value) (bytes : Nat) (ht : P.underlying t = some (.slice e)) (hi : P.info? e = some i) (hz : i.zero = some z)
    (hsize : i.size = 1) (hby : i.bytes = bytes) (hzs : z.cells.size = 1) (v : Value) (n : Nat) (xs : List Value) (hown : w.ownsRow base e 1 v n xs)
    (k : IntKind) (ao : Option Addr) (len cap : Nat) (zs : List Int) (R : RdI k w ao len cap zs) (h63 : n + len ≤ maxLen) (hbytes : (n + len) * bytes ≤ 140737488355328) (hbase : base ≤ w.heap.size) :
    ∃ v' w', (Builtin.append_ #[t, t] ty #[v, .slice ao len cap]).run P w = .ok v' w' ∧ w'.ownsRow base e 1 v' (n + len) (xs ++ zs.map (Value.int k)) ∧ w.grownBy w' v.ownBlock := by
  have hone : ∀ u ∈ zs.map (Value.int k), u.oneCell' = true := by intro u hu; obtain ⟨x, _, rfl⟩ := List.mem_map.1 hu; rfl
  cases ao with
  | none =>
    obtain rfl : cap = 0 := R.nul rfl
    obtain rfl : len = 0 := by have := R.lc; omega
    obtain rfl : zs = [] := List.eq_nil_of_length_eq_zero R.size
    have hrun := run_append_owned_none (P := P) (w := w) base t ty e i 1 ht hi v n xs hown
    exact ⟨v, w, hrun, by simpa using hown, ⟨rfl, rfl, rfl, Nat.le_refl _, fun _ _ _ => rfl⟩⟩
  | some a =>
    have hcs : ∀ j u, (zs.map (Value.int k))[j]? = some u → w.cell? (a.add j) = some u := by
      intro j u hj
      rw [List.getElem?_map] at hj
      obtain ⟨x, hx, rfl⟩ := Option.map_eq_some_iff.1 hj
      have hjl : j < zs.length := (List.getElem?_eq_some_iff.1 hx).1
      obtain ⟨b, off, ha, hc⟩ := R.cells j (by rw [← R.size]; exact hjl)
      cases ha
      rw [List.getD_eq_getElem?_getD, hx] at hc
      rw [Addr.add_lit, hc]; rfl
    obtain ⟨v', w', hr, h2, h3, _⟩ := run_append_own (P := P) w base t ty e i z 1 bytes ht hi hz hsize hby hzs (by decide) v n xs hown a len cap (zs.map (Value.int k)) (by rw [List.length_map, R.size, Nat.mul_one]) hcs hone h63 hbytes hbase
    exact ⟨v', w', hr, h2, h3⟩

theorem wpList_append_rd {P : Program} (w : World) {ops : Array Oper} {rest : List Oper} {o : Oper} {a : Act} {Q : Exit → Act → World → Prop} (hgd : o.guard = none) (s x : Operand) (t : TypeId)
    (ho : o.op = .call { callee := .builtin .append, args := #[s, x], argTypes := #[t, t] })
    (base : Nat) (e : TypeId) (i : TypeInfo) (z : Value) (bytes : Nat) (ht : P.underlying t = some (.slice e)) (hi : P.info? e = some i) (hz : i.zero = some z)
    (hsize : i.size = 1) (hby : i.bytes = bytes) (hzs : z.cells.size = 1) (v : Value) (n : Nat) (xs : List Value) (hs : a.eval s = v) (hown : w.ownsRow base e 1 v n xs)
    (k : IntKind) (ao : Option Addr) (len cap : Nat) (zs : List Int) (hx : a.eval x = .slice ao len cap) (R : RdI k w ao len cap zs) (h63 : n + len ≤ maxLen) (hbytes : (n + len) * bytes ≤ 140737488355328) (hbase : base ≤ w.heap.size)
    (h : ∀ v' w', w'.ownsRow base e 1 v' (n + len) (xs ++ zs.map (Value.int k)) → w.grownBy w' v.ownBlock → wpList P ops Q rest (a.put o.dst v') w') : wpList P ops Q (o :: rest) a w := by
  refine wpList_plain hgd fun K hK => ?_
  obtain ⟨v', w', hr, h2, h3⟩ := run_append_rd (P := P) w t o.type base e i z bytes ht hi hz hsize hby hzs v n xs hown k ao len cap zs R h63 hbytes hbase
  unfold Oper.wp execOp
  simp only [ho, resolve, invoke, builtin, Sem.run_bind, Sem.run_pure, Result.andThen_ok, List.map_toArray, List.map_cons, List.map_nil, hs, hx, hr]
  exact hK _ _ (h v' w' h2 h3)
end Go.Proofs.YtajnfkmkombajabGreatDoor
