/-
  The document's stakes in memory: how they lie; New, Is, Staked, Value.
  The document's stakes in memory: what is asked of them: Staked, Value, Waits, Total.
  The document's stakes in memory: a pool changes; New, Join, Add.
  The document's stakes in memory: Total.
  The document's stakes in memory: what waits at i changes; a change of all that waits, under way.
-/
import Derived.Test.YtajnfkmkombajacGreatDoorQSA07
import Derived.Test.YtajnfkmkombajacGreatDoorQSA12
import Derived.Test.YtajnfkmkombajacGreatDoorQSA14
set_option linter.unusedVariables false
set_option linter.unusedSimpArgs false
set_option linter.unusedVariables false
namespace Go.Proofs.YtajnfkmkombajacGreatDoor
open Go.RowKit Go.Maps

/-- what a block is to the document's stakes: the struct; the row of bakers' pools; the row of what waits; pool j; its shares -/
inductive RRole | none | top | row | wrow | bp (j : Nat) | bs (j : Nat) deriving DecidableEq
structure RLay where
  role : Nat → RRole
  g : Nat
  pb : Nat → Nat
  ps : Nat → Nat
  pc : Nat → Nat
/-- pool j: of baker j (j < 3), or what waits at j - 3 -/
def SS.rget (s : SS) (j : Nat) : Option QS := if j < 3 then s.P.getD j none else (s.W[j - 3]?).map (·.q)
theorem SS.rget_pool (s : SS) {j : Nat} (hj : j < 3) : s.rget j = s.pool j := by unfold SS.rget; rw [if_pos hj, SS.pool_nat]
theorem SS.rget_wait (s : SS) (i : Nat) : s.rget (i + 3) = (s.W[i]?).map (·.q) := by unfold SS.rget; rw [if_neg (by omega), Nat.add_sub_cancel]
def rptr (s : SS) (L : RLay) (j : Nat) : Value := if (s.rget j).isSome then .pointer (some ⟨L.pb j, 0, none⟩) else .pointer none
def waitE (L : RLay) (x : WP × Nat) : List Value := [.int .i64 x.1.b, .int .i64 x.1.c, .pointer (some ⟨L.pb (x.2 + 3), 0, none⟩)]
def waitsE (L : RLay) (l : List WP) : List Value := l.zipIdx.flatMap (waitE L)

structure RStL (sb : Nat) (L : RLay) (wv : Value) (s : SS) (w : World) : Prop where
  ok : s.Ok
  top : RowAt sb 112 [.slice (some ⟨L.g, 0, none⟩) 3 3, wv] w
  rtop : L.role sb = .top
  row : RowAt L.g 125 [rptr s L 0, rptr s L 1, rptr s L 2] w
  rrow : L.role L.g = .row
  wai : w.ownsRow 0 127 3 wv s.W.length (waitsE L s.W)
  rwai : ∀ h, wv.ownBlock = some h → L.role h = .wrow
  poo : ∀ j q, s.rget j = some q → RPoolAt (L.pb j) (L.ps j) (L.pc j) q w ∧ L.role (L.pb j) = .bp j ∧ L.role (L.ps j) = .bs j
/-- block sb is the document's stakes that hold s, among the blocks F -/
def RStAt (sb : Nat) (F : Nat → Prop) (s : SS) (w : World) : Prop := ∃ L wv, RStL sb L wv s w ∧ (∀ b, L.role b ≠ .none → F b) ∧ ∀ b, F b → b < w.heap.size
def RStP (sb : Nat) (F : Nat → Prop) (s : SS) (w w' : World) : Prop := Keep F w w' ∧ RStAt sb (grownF F w w') s w'
section
variable {sb : Nat} {L : RLay} {wv : Value} {s : SS} {F G : Nat → Prop} {w w' : World}
theorem RStL.keep (h : RStL sb L wv s w) (K : Keep G w w') (hG : ∀ b, L.role b ≠ .none → ¬ G b) : RStL sb L wv s w' :=
  ⟨h.ok, h.top.keep K (hG _ (by rw [h.rtop]; simp)), h.rtop, h.row.keep K (hG _ (by rw [h.rrow]; simp)), h.rrow,
   ownsRow_other h.wai (fun g hg => K.block g (h.wai.lt g hg).2 (hG _ (by rw [h.rwai g hg]; simp))), h.rwai,
   fun j q hq => ⟨(h.poo j q hq).1.keep K (hG _ (by rw [(h.poo j q hq).2.1]; simp)) (hG _ (by rw [(h.poo j q hq).2.2]; simp)), (h.poo j q hq).2⟩⟩
theorem RStAt.keep (h : RStAt sb F s w) (K : Keep G w w') (hG : ∀ b, F b → ¬ G b) : RStAt sb F s w' := by
  obtain ⟨L, wv, h1, h2, h3⟩ := h
  exact ⟨L, wv, h1.keep K (fun b hb => hG _ (h2 b hb)), h2, fun b hb => Nat.lt_of_lt_of_le (h3 b hb) K.size⟩
theorem RStAt.below (h : RStAt sb F s w) (K : Below w.heap.size w w') : RStAt sb F s w' := h.keep (G := fun _ => False) (Keep.of_below K) (fun _ _ => id)
theorem RStAt.lt (h : RStAt sb F s w) : ∀ b, F b → b < w.heap.size := by obtain ⟨L, wv, h1, h2, h3⟩ := h; exact h3
theorem RStAt.foot (h : RStAt sb F s w) (hG : ∀ b, F b → G b) (hlt : ∀ b, G b → b < w.heap.size) : RStAt sb G s w := by
  obtain ⟨L, wv, h1, h2, h3⟩ := h
  exact ⟨L, wv, h1, fun b hb => hG _ (h2 b hb), hlt⟩
theorem RStP.of_below (h : RStAt sb F s w) (hb : Below w.heap.size w w') : RStP sb F s w w' :=
  ⟨Keep.of_below hb, (h.below hb).foot (fun _ hk => .inl hk) (grownF_lt (fun _ hk => h.lt _ hk) hb.size)⟩
theorem RStL.ptr (h : RStL sb L wv s w) {k : Nat} (hk : k < 3) : w.cell? ⟨L.g, k, none⟩ = some (rptr s L k) := by
  rw [h.row.cell]
  match k, hk with
  | 0, _ => rfl
  | 1, _ => rfl
  | 2, _ => rfl
theorem RStL.below (h : RStL sb L wv s w) (K : Below w.heap.size w w') : RStL sb L wv s w' := h.keep (G := fun _ => False) (Keep.of_below K) (fun _ _ => id)
end

set_option maxRecDepth 8000 in
theorem refs_Is (sb : Nat) (L : RLay) (wv : Value) (s : SS) (k : Int) (w : World) (h : RStL sb L wv s w) :
    Calls Tryz.prog 20 #[.pointer (some ⟨sb, 0, none⟩), .int .i64 k] w fun e w' => e = .returned (.bool (s.is k)) ∧ w = w' := by
  have t0 := h.top.cell 0
  simp only [List.getElem?_cons_zero] at t0
  by_cases hk : 0 ≤ k ∧ k < 3
  · obtain ⟨j, rfl⟩ := Int.eq_ofNat_of_zero_le hk.1
    have hj : j < 3 := by omega
    have hp := h.ptr hj
    have hi : s.is (j : Int) = (s.rget j).isSome := by unfold SS.is; rw [SS.rget_pool s hj]
    have x1 : decide ((j : Int) < 3) = true := by simp; omega
    rw [hi]
    unfold rptr at hp
    clear h hi
    cases hq : s.rget j with
    | none =>
      rw [hq] at hp
      simp only [Option.isSome_none, Bool.false_eq_true, if_false] at hp
      clear hq
      go_enter Tryz.func20, Tryz.ntmps20
      go_wp2
      go_ret
      exact ⟨rfl, rfl⟩
    | some q =>
      rw [hq] at hp
      simp only [Option.isSome_some, if_true] at hp
      clear hq
      go_enter Tryz.func20, Tryz.ntmps20
      go_wp2
      go_ret
      exact ⟨rfl, rfl⟩
  · have hi : s.is k = false := by
      unfold SS.is SS.pool
      by_cases h0 : 0 ≤ k
      · rw [if_pos h0, List.getD_eq_getElem?_getD, List.getElem?_eq_none (by rw [h.ok.three]; omega)]; rfl
      · rw [if_neg h0]; rfl
    rw [hi]
    have hcases : k < 0 ∨ (0 ≤ k ∧ 3 ≤ k) := by omega
    clear h hk hi t0
    rcases hcases with d | ⟨d, d2⟩
    all_goals
      go_enter Tryz.func20, Tryz.ntmps20
      go_wp2
      go_ret
      exact ⟨rfl, rfl⟩
theorem RStL.rd {sb : Nat} {L : RLay} {wv : Value} {s : SS} {w : World} (h : RStL sb L wv s w) : ∃ ao cap, wv = .slice ao s.W.length cap ∧ RdR (waitE L) 3 w ao s.W.length cap s.W.zipIdx := by
  have hw := h.wai
  unfold waitsE at hw
  have hv2 : ∃ ao cap, wv = .slice ao s.W.length cap := by
    rcases hw.2 with ⟨hv, hn⟩ | ⟨g, cap, cur, hv, r⟩
    · exact ⟨none, 0, by rw [hv, hn]⟩
    · exact ⟨_, cap, hv⟩
  obtain ⟨ao, cap, rfl⟩ := hv2
  exact ⟨ao, cap, rfl, RdR.of_row (fun _ => rfl) (by decide) hw⟩
theorem zip_get {l : List WP} {i : Nat} {x : WP} (h : l[i]? = some x) : l.zipIdx[i]? = some (x, i) := by
  rw [List.getElem?_zipIdx, h]; simp
/-- where it waits: the first with this baker and cycle -/
def SS.idx (s : SS) (k c : Int) : Option Nat := s.W.findIdx? (·.at k c)
def idxV (o : Option Nat) : Int := match o with
  | some i => i
  | none => -1

set_option maxRecDepth 8000 in
theorem refs_find (sb : Nat) (L : RLay) (wv : Value) (s : SS) (k c : Int) (w : World) (h : RStL sb L wv s w) :
    Calls Tryz.prog 80 #[.pointer (some ⟨sb, 0, none⟩), .int .i64 k, .int .i64 c] w fun e w' => e = .returned (.int .i64 (idxV (s.idx k c))) ∧ w = w' := by
  obtain ⟨ao, cap, rfl, R⟩ := h.rd
  have t1 := h.top.cell 1
  simp only [List.getElem?_cons_zero, List.getElem?_cons_succ] at t1
  have hmx : s.W.length ≤ maxLen := Nat.le_trans R.lc R.cm
  unfold maxLen at hmx
  have HR := Lib.hid R; clear R h
  obtain ⟨res, hi⟩ : ∃ res, res = s.idx k c := ⟨_, rfl⟩
  rw [← hi]
  have HI := Lib.hid hi; clear hi
  generalize hlen : s.W.length = len at *
  go_enter Tryz.func80, Tryz.ntmps80
  go_wp2_with fail
  go_loopg [7] len (fun g i wr => ∃ t : Nat, wr = w ∧ g + t = len ∧ i = .int .i64 t ∧ ∀ j x, j < t → s.W[j]? = some x → x.at k c = false)
  case atStart => exact ⟨0, rfl, rfl, rfl, fun j x hj => by omega⟩
  case round =>
    obtain ⟨t, rfl, hg, rfl, hno⟩ := hrel
    have HN := Lib.hid hno; have HG := Lib.hid hg; clear hno hg
    by_cases hlt : t < len
    · obtain ⟨x, hx⟩ : ∃ x, s.W[t]? = some x := ⟨_, List.getElem?_eq_getElem (by omega)⟩
      obtain ⟨bb, off, rfl, hbl, hcs⟩ := HR.out.cells t _ (zip_get hx)
      have c0 := hcs 0 (by decide)
      have c1 := hcs 1 (by decide)
      simp only [waitE, List.getElem?_cons_zero, List.getElem?_cons_succ, Nat.add_zero] at c0 c1
      have HX := Lib.hid hx; have HL := Lib.hid hlen
      clear hcs hbl hx hlen
      by_cases hb : x.b = k
      · have e1 : (x.b == k) = true := by simp [hb]
        by_cases hc : x.c = c
        · have e2 : (x.c == c) = true := by simp [hc]
          have hres : res = some t := by
            rw [HI.out]; unfold SS.idx; rw [List.findIdx?_eq_some_iff_getElem]
            have hlt' : t < s.W.length := by rw [HL.out]; exact hlt
            have hxe : s.W[t] = x := by have := HX.out; rw [List.getElem?_eq_getElem hlt'] at this; exact Option.some.inj this
            refine ⟨hlt', by rw [hxe]; unfold WP.at; rw [e1, e2]; rfl, fun j hj => ?_⟩
            simpa using HN.out j _ hj (List.getElem?_eq_getElem (by omega))
          subst hres
          clear hb hc
          go_wp2_with fail
          go_ret
          exact ⟨rfl, rfl⟩
        · have e2 : (x.c == c) = false := by simp [hc]
          have HNX := Lib.hid (show x.at k c = false by unfold WP.at; rw [e2]; simp)
          clear hb hc
          go_wp2_with fail
          have hg := HG.out
          go_roundg (len - (t + 1))
          case measure => omega
          case rel => exact ⟨t + 1, rfl, by omega, by go_num, fun j y hj hy => by
            by_cases hjt : j = t
            · subst hjt; have := HX.out; rw [hy] at this; obtain rfl := Option.some.inj this; exact HNX.out
            · exact HN.out j y (by omega) hy⟩
      · have e1 : (x.b == k) = false := by simp [hb]
        have HNX := Lib.hid (show x.at k c = false by unfold WP.at; rw [e1]; simp)
        clear hb
        go_wp2_with fail
        have hg := HG.out
        go_roundg (len - (t + 1))
        case measure => omega
        case rel => exact ⟨t + 1, rfl, by omega, by go_num, fun j y hj hy => by
          by_cases hjt : j = t
          · subst hjt; have := HX.out; rw [hy] at this; obtain rfl := Option.some.inj this; exact HNX.out
          · exact HN.out j y (by omega) hy⟩
    · have hres : res = none := by
        rw [HI.out]; unfold SS.idx; rw [List.findIdx?_eq_none_iff]
        intro x hx
        obtain ⟨j, hj, rfl⟩ := List.mem_iff_getElem.1 hx
        exact HN.out j _ (by omega) (List.getElem?_eq_getElem hj)
      subst hres
      go_wp2_with fail
      go_ret
      exact ⟨rfl, rfl⟩
end Go.Proofs.YtajnfkmkombajacGreatDoor
namespace Go.Proofs.YtajnfkmkombajacGreatDoor
open Go.RowKit Go.Maps

theorem RStL.yes {sb : Nat} {L : RLay} {wv : Value} {s : SS} {w : World} (h : RStL sb L wv s w) {k : Int} (hi : s.is k = true) :
    ∃ (j : Nat) (q : QS), k = j ∧ j < 3 ∧ s.pool k = some q ∧ s.rget j = some q ∧ w.cell? ⟨L.g, j, none⟩ = some (.pointer (some ⟨L.pb j, 0, none⟩)) := by
  unfold SS.is at hi
  obtain ⟨q, hq⟩ := Option.isSome_iff_exists.1 hi
  obtain ⟨h0, h3⟩ := h.ok.lt hq
  obtain ⟨j, rfl⟩ := Int.eq_ofNat_of_zero_le h0
  have hj : j < 3 := by omega
  have hr : s.rget j = some q := by rw [SS.rget_pool s hj]; exact hq
  refine ⟨j, q, rfl, hj, hq, hr, ?_⟩
  have := h.ptr hj
  unfold rptr at this
  rw [hr] at this
  simpa using this

section
variable (sb : Nat) (L : RLay) (wv : Value) (s : SS) (w : World)
set_option maxRecDepth 8000 in
theorem refs_Staked (k : Int) (h : RStL sb L wv s w) :
    Calls Tryz.prog 22 #[.pointer (some ⟨sb, 0, none⟩), .int .i64 k] w fun e w' => e = .returned (.int .i64 (s.staked k)) ∧ w = w' := by
  have HI := Lib.hid (refs_Is sb L wv s k w h)
  by_cases hi : s.is k = true
  · obtain ⟨j, q, rfl, hj, hq, hr, hp⟩ := h.yes hi
    have t0 := h.top.cell 0
    have q0 := (h.poo j q hr).1.row.cell 0
    simp only [List.getElem?_cons_zero] at t0 q0
    have hs : s.staked (j : Int) = q.total := by unfold SS.staked; rw [hq]; rfl
    rw [hs]
    rw [hi] at HI
    clear h hi hq hr hs
    go_enter Tryz.func22, Tryz.ntmps22
    go_wp2_with fail
    refine HI.out.mono ?_
    rintro e w1 ⟨rfl, rfl⟩
    go_wp2_with fail
    go_ret
    exact ⟨rfl, rfl⟩
  · have hi' : s.is k = false := by simpa using hi
    have hs : s.staked k = 0 := by
      unfold SS.is at hi'; unfold SS.staked
      rw [Option.isSome_eq_false_iff, Option.isNone_iff_eq_none] at hi'; rw [hi']; rfl
    rw [hs]
    rw [hi'] at HI
    clear h hi hi' hs
    go_enter Tryz.func22, Tryz.ntmps22
    go_wp2_with fail
    refine HI.out.mono ?_
    rintro e w1 ⟨rfl, rfl⟩
    go_wp2_with fail
    go_ret
    exact ⟨rfl, rfl⟩

set_option maxRecDepth 8000 in
theorem refs_Value (o k : Int) (h : RStL sb L wv s w) :
    Calls Tryz.prog 24 #[.pointer (some ⟨sb, 0, none⟩), .int .i64 o, .int .i64 k] w fun e w' => e = .returned (.int .i64 (s.value o k)) ∧ Dr w w' := by
  have HI := Lib.hid (refs_Is sb L wv s k w h)
  by_cases hi : s.is k = true
  · obtain ⟨j, q, rfl, hj, hq, hr, hp⟩ := h.yes hi
    have t0 := h.top.cell 0
    simp only [List.getElem?_cons_zero] at t0
    have HV := Lib.hid (refq_Value (L.pb j) (L.ps j) (L.pc j) q o w (h.poo j q hr).1)
    have hs : s.value o (j : Int) = q.value o := by unfold SS.value; rw [hq]; rfl
    rw [hs]
    rw [hi] at HI
    clear h hi hq hr hs
    go_enter Tryz.func24, Tryz.ntmps24
    go_wp2_with fail
    refine HI.out.mono ?_
    rintro e w1 ⟨rfl, rfl⟩
    go_wp2_with fail
    refine HV.out.mono ?_
    rintro e w1 ⟨rfl, hd⟩
    go_wp2_with fail
    go_ret
    exact ⟨rfl, hd⟩
  · have hi' : s.is k = false := by simpa using hi
    have hs : s.value o k = 0 := by
      unfold SS.is at hi'; unfold SS.value
      rw [Option.isSome_eq_false_iff, Option.isNone_iff_eq_none] at hi'; rw [hi']; rfl
    rw [hs]
    rw [hi'] at HI
    clear h hi hi' hs
    go_enter Tryz.func24, Tryz.ntmps24
    go_wp2_with fail
    refine HI.out.mono ?_
    rintro e w1 ⟨rfl, rfl⟩
    go_wp2_with fail
    go_ret
    exact ⟨rfl, Dr.refl _⟩

theorem SS.idx_find (s : SS) (k c : Int) : (s.idx k c = none ∧ s.find k c = none) ∨ ∃ i x, s.idx k c = some i ∧ s.W[i]? = some x ∧ s.find k c = some x.q ∧ x.b = k ∧ x.c = c := by
  unfold SS.idx SS.find
  cases hx : s.W.findIdx? (·.at k c) with
  | none =>
    refine .inl ⟨rfl, ?_⟩
    rw [List.findIdx?_eq_none_iff] at hx
    have : s.W.find? (·.at k c) = none := List.find?_eq_none.2 (fun x h => by simp [hx x h])
    rw [this]; rfl
  | some i =>
    refine .inr ?_
    rw [List.findIdx?_eq_some_iff_getElem] at hx
    obtain ⟨hi, ha, hn⟩ := hx
    refine ⟨i, s.W[i], rfl, List.getElem?_eq_getElem hi, ?_, ?_⟩
    · have : s.W.find? (·.at k c) = some s.W[i] := by
        rw [List.find?_eq_some_iff_getElem]
        exact ⟨ha, i, hi, rfl, fun j hj => by simpa using hn j hj⟩
      rw [this]; rfl
    · unfold WP.at at ha; simpa using ha

set_option maxRecDepth 8000 in
theorem refs_Waits (o k c : Int) (h : RStL sb L wv s w) :
    Calls Tryz.prog 26 #[.pointer (some ⟨sb, 0, none⟩), .int .i64 o, .int .i64 k, .int .i64 c] w fun e w' => e = .returned (.int .i64 (s.waits o k c)) ∧ Dr w w' := by
  have HF := Lib.hid (refs_find sb L wv s k c w h)
  rcases s.idx_find k c with ⟨i1, i2⟩ | ⟨i, x, i1, i2, i3, -⟩
  · have hs : s.waits o k c = 0 := by unfold SS.waits; rw [i2]; rfl
    rw [hs]
    rw [i1] at HF
    clear h i1 i2 hs
    unfold idxV at HF
    go_enter Tryz.func26, Tryz.ntmps26
    go_wp2_with fail
    refine HF.out.mono ?_
    rintro e w1 ⟨rfl, rfl⟩
    go_wp2_with fail
    go_ret
    exact ⟨rfl, Dr.refl _⟩
  · have hs : s.waits o k c = x.q.value o := by unfold SS.waits; rw [i3]; rfl
    have hlt : i < s.W.length := (List.getElem?_eq_some_iff.1 i2).1
    obtain ⟨ao, cap, rfl, R⟩ := h.rd
    have hmx : s.W.length ≤ maxLen := Nat.le_trans R.lc R.cm
    unfold maxLen at hmx
    have t1 := h.top.cell 1
    simp only [List.getElem?_cons_zero, List.getElem?_cons_succ] at t1
    obtain ⟨bb, off, rfl, hbl, hcs⟩ := R.cells i _ (zip_get i2)
    have c2 := hcs 2 (by decide)
    simp only [waitE, List.getElem?_cons_zero, List.getElem?_cons_succ] at c2
    have HV := Lib.hid (refq_Value (L.pb (i + 3)) (L.ps (i + 3)) (L.pc (i + 3)) x.q o w (h.poo (i + 3) x.q (by rw [SS.rget_wait, i2]; rfl)).1)
    rw [hs]
    rw [i1] at HF
    unfold idxV at HF
    simp only at HF
    generalize s.W.length = len at *
    clear h i1 i2 i3 hs R hcs
    go_enter Tryz.func26, Tryz.ntmps26
    go_wp2_with fail
    refine HF.out.mono ?_
    rintro e w1 ⟨rfl, rfl⟩
    go_wp2_with fail
    refine HV.out.mono ?_
    rintro e w1 ⟨rfl, hd⟩
    go_wp2_with fail
    go_ret
    exact ⟨rfl, hd⟩
end
end Go.Proofs.YtajnfkmkombajacGreatDoor
namespace Go.Proofs.YtajnfkmkombajacGreatDoor
open Go.RowKit Go.Maps

/-- pool j is q' now -/
theorem RStL.pool {sb : Nat} {L : RLay} {wv : Value} {s s' : SS} {w w' : World} (h : RStL sb L wv s w) {j : Nat} {q q' : QS} (hq : s.rget j = some q) (hP : RPoolP (L.pb j) (L.ps j) (L.pc j) q' w w')
    (hok : s'.Ok) (hr : ∀ i, s'.rget i = if i = j then some q' else s.rget i) (hlen : s'.W.length = s.W.length) (hwe : waitsE L s'.W = waitsE L s.W) : RStL sb L wv s' w' := by
  obtain ⟨K, hp⟩ := hP
  obtain ⟨-, rb, rs⟩ := h.poo j q hq
  have far : ∀ b, L.role b ≠ .bp j → L.role b ≠ .bs j → ¬ (b = L.pb j ∨ b = L.ps j) := fun b h1 h2 hb => by
    rcases hb with rfl | rfl
    · exact h1 rb
    · exact h2 rs
  have hpt : ∀ i, rptr s' L i = rptr s L i := fun i => by
    unfold rptr; rw [hr i]
    by_cases hi : i = j
    · subst hi; rw [if_pos rfl, hq]; rfl
    · rw [if_neg hi]
  refine ⟨hok, h.top.keep K (far _ (by rw [h.rtop]; simp) (by rw [h.rtop]; simp)), h.rtop, ?_, h.rrow, ?_, h.rwai, ?_⟩
  · rw [hpt 0, hpt 1, hpt 2]; exact h.row.keep K (far _ (by rw [h.rrow]; simp) (by rw [h.rrow]; simp))
  · rw [hlen, hwe]
    exact ownsRow_other h.wai (fun g hg => K.block g (h.wai.lt g hg).2 (far _ (by rw [h.rwai g hg]; simp) (by rw [h.rwai g hg]; simp)))
  · intro i q2 hq2
    rw [hr i] at hq2
    by_cases hi : i = j
    · subst hi; rw [if_pos rfl] at hq2; obtain rfl := Option.some.inj hq2
      exact ⟨hp, rb, rs⟩
    · rw [if_neg hi] at hq2
      obtain ⟨p1, p2, p3⟩ := h.poo i q2 hq2
      exact ⟨p1.keep K (far _ (by rw [p2]; simpa using hi) (by rw [p2]; simp)) (far _ (by rw [p3]; simp) (by rw [p3]; simpa using hi)), p2, p3⟩
theorem SS.rget_setP {s : SS} (h : s.Ok) {j : Nat} (hj : j < 3) (q : QS) (i : Nat) : (s.setP (j : Int) q).rget i = if i = j then some q else s.rget i := by
  by_cases hi : i < 3
  · rw [SS.rget_pool _ hi, SS.rget_pool _ hi, SS.pool_setP h (by omega) (by omega)]
    by_cases e : i = j
    · rw [if_pos (by omega), if_pos e]
    · rw [if_neg (by omega), if_neg e]
  · have : i ≠ j := by omega
    rw [if_neg this]
    unfold SS.rget; rw [if_neg hi, if_neg hi]; rfl
/-- pool j of the bakers is q' now, as a change of the whole -/
theorem RStL.setP {sb : Nat} {L : RLay} {wv : Value} {s : SS} {w w' : World} {F : Nat → Prop} (h : RStL sb L wv s w) (hF : ∀ b, L.role b ≠ .none → F b) (hlt : ∀ b, F b → b < w.heap.size) {j : Nat} (hj : j < 3) {q q' : QS} (hq : s.rget j = some q) (hP : RPoolP (L.pb j) (L.ps j) (L.pc j) q' w w') (hok : (s.setP (j : Int) q').Ok) :
    RStP sb F (s.setP (j : Int) q') w w' := by
  obtain ⟨-, rb, rs⟩ := h.poo j q hq
  have hl := h.pool hq hP hok (SS.rget_setP h.ok hj q') rfl rfl
  refine ⟨hP.1.mono (fun b hb => ?_), L, wv, hl, fun b hb => .inl (hF b hb), grownF_lt hlt hP.1.size⟩
  rcases hb with rfl | rfl
  · exact hF _ (by rw [rb]; simp)
  · exact hF _ (by rw [rs]; simp)

section
variable (sb : Nat) (F : Nat → Prop) (s : SS) (w : World)
set_option maxRecDepth 8000 in
theorem refs_Join (o k n : Int) (h : RStAt sb F s w) :
    Calls Tryz.prog 69 #[.pointer (some ⟨sb, 0, none⟩), .int .i64 o, .int .i64 k, .int .i64 n] w fun e w' => e = .returned (.int .i64 (s.joinOp o k n).1) ∧ RStP sb F (s.joinOp o k n).2 w w' := by
  have HA := Lib.hid h
  obtain ⟨L, wv, hL, hF, hlt⟩ := h
  have HI := Lib.hid (refs_Is sb L wv s k w hL)
  have hok := SS.joinOp_ok hL.ok o k n
  by_cases hi : s.is k = true
  · obtain ⟨j, q, rfl, hj, hq, hr, hp⟩ := hL.yes hi
    have t0 := hL.top.cell 0
    simp only [List.getElem?_cons_zero] at t0
    have e : s.joinOp o (j : Int) n = ((q.joinOp o n).1, s.setP (j : Int) (q.joinOp o n).2) := by unfold SS.joinOp; rw [hq]
    rw [e] at hok ⊢
    have HJ := Lib.hid (refq_Join (L.pb j) (L.ps j) (L.pc j) q o n w (hL.poo j q hr).1)
    have HS := Lib.hid (fun w' hP => hL.setP (w' := w') hF hlt hj hr hP hok)
    rw [hi] at HI
    clear hL hF hlt hi hq hr e hok HA
    go_enter Tryz.func69, Tryz.ntmps69
    go_wp2_with fail
    refine HI.out.mono ?_
    rintro e w1 ⟨rfl, rfl⟩
    go_wp2_with fail
    refine HJ.out.mono ?_
    rintro e w1 ⟨rfl, hP⟩
    have HP := Lib.hid hP; clear hP
    go_wp2_with fail
    go_ret
    exact ⟨rfl, HS.out _ HP.out⟩
  · have hi' : s.is k = false := by simpa using hi
    have e : s.joinOp o k n = (4, s) := by
      unfold SS.is at hi'; unfold SS.joinOp
      rw [Option.isSome_eq_false_iff, Option.isNone_iff_eq_none] at hi'; rw [hi']
    rw [e]
    rw [hi'] at HI
    clear hL hF hlt hi hi' e hok
    go_enter Tryz.func69, Tryz.ntmps69
    go_wp2_with fail
    refine HI.out.mono ?_
    rintro e w1 ⟨rfl, rfl⟩
    go_wp2_with fail
    go_ret
    exact ⟨rfl, RStP.of_below HA.out (Below.refl _ _)⟩

set_option maxRecDepth 8000 in
theorem refs_Add (k n : Int) (h : RStAt sb F s w) :
    Calls Tryz.prog 74 #[.pointer (some ⟨sb, 0, none⟩), .int .i64 k, .int .i64 n] w fun e w' => e = .returned (.int .i64 (s.addOp k n).1) ∧ RStP sb F (s.addOp k n).2 w w' := by
  have HA := Lib.hid h
  obtain ⟨L, wv, hL, hF, hlt⟩ := h
  have HI := Lib.hid (refs_Is sb L wv s k w hL)
  have hok := SS.addOp_ok hL.ok k n
  by_cases hi : s.is k = true
  · obtain ⟨j, q, rfl, hj, hq, hr, hp⟩ := hL.yes hi
    have t0 := hL.top.cell 0
    simp only [List.getElem?_cons_zero] at t0
    have e : s.addOp (j : Int) n = ((q.addOp n).1, s.setP (j : Int) (q.addOp n).2) := by unfold SS.addOp; rw [hq]
    rw [e] at hok ⊢
    have HJ := Lib.hid (refq_Add (L.pb j) (L.ps j) (L.pc j) q n w (hL.poo j q hr).1)
    have HS := Lib.hid (fun w' hP => hL.setP (w' := w') hF hlt hj hr hP hok)
    rw [hi] at HI
    clear hL hF hlt hi hq hr e hok HA
    go_enter Tryz.func74, Tryz.ntmps74
    go_wp2_with fail
    refine HI.out.mono ?_
    rintro e w1 ⟨rfl, rfl⟩
    go_wp2_with fail
    refine HJ.out.mono ?_
    rintro e w1 ⟨rfl, hP⟩
    have HP := Lib.hid hP; clear hP
    go_wp2_with fail
    go_ret
    exact ⟨rfl, HS.out _ HP.out⟩
  · have hi' : s.is k = false := by simpa using hi
    have e : s.addOp k n = (4, s) := by
      unfold SS.is at hi'; unfold SS.addOp
      rw [Option.isSome_eq_false_iff, Option.isNone_iff_eq_none] at hi'; rw [hi']
    rw [e]
    rw [hi'] at HI
    clear hL hF hlt hi hi' e hok
    go_enter Tryz.func74, Tryz.ntmps74
    go_wp2_with fail
    refine HI.out.mono ?_
    rintro e w1 ⟨rfl, rfl⟩
    go_wp2_with fail
    go_ret
    exact ⟨rfl, RStP.of_below HA.out (Below.refl _ _)⟩
end
end Go.Proofs.YtajnfkmkombajacGreatDoor
namespace Go.Proofs.YtajnfkmkombajacGreatDoor
open Go.RowKit Go.Maps

def totP (s : SS) (k : Nat) : Int := ((s.P.take k).map optT).sum
def totW (s : SS) (i : Nat) : Int := ((s.W.take i).map (·.q.total)).sum
theorem stk_bd {s : SS} (h : s.Ok) (k : Int) : 0 ≤ s.staked k ∧ s.staked k ≤ 1125899906842624 := by
  unfold SS.staked
  cases hp : s.pool k with
  | none => simp
  | some q => have := h.poolOk hp; exact ⟨this.t0, this.t1⟩
theorem totP_step {s : SS} (h : s.Ok) {k : Nat} (hk : k < 3) : totP s (k + 1) = totP s k + s.staked k := by
  have hl : k < s.P.length := by rw [h.three]; exact hk
  unfold totP SS.staked
  rw [List.take_add_one, List.getElem?_eq_getElem hl, List.map_append, List.sum_append, SS.pool_nat, List.getD_eq_getElem?_getD, List.getElem?_eq_getElem hl]
  simp [optT]
theorem totW_step {s : SS} {i : Nat} {x : WP} (hx : s.W[i]? = some x) : totW s (i + 1) = totW s i + x.q.total := by
  unfold totW
  rw [List.take_add_one, hx, List.map_append, List.sum_append]
  simp
theorem totP_bd {s : SS} (h : s.Ok) : ∀ {k : Nat}, k ≤ 3 → 0 ≤ totP s k ∧ totP s k ≤ k * 1125899906842624
  | 0, _ => by simp [totP]
  | k + 1, hk => by
    have h1 := totP_bd h (k := k) (by omega)
    have h2 := stk_bd h k
    rw [totP_step h (by omega)]
    omega
theorem totW_bd {s : SS} (h : s.Ok) : ∀ {i : Nat}, i ≤ s.W.length → 0 ≤ totW s i ∧ totW s i ≤ i * 1125899906842624
  | 0, _ => by simp [totW]
  | i + 1, hi => by
    have h1 := totW_bd h (i := i) (by omega)
    have hx : s.W[i]? = some s.W[i] := List.getElem?_eq_getElem (by omega)
    have h2 := (h.waits s.W[i] (List.getElem_mem _)).1
    rw [totW_step hx]
    have := h2.t0; have := h2.t1
    omega
theorem tot_all {s : SS} (h : s.Ok) : totP s 3 + totW s s.W.length = s.total := by
  unfold totP totW SS.total
  rw [List.take_of_length_le (by rw [h.three]; decide), List.take_of_length_le (Nat.le_refl _)]

set_option maxRecDepth 8000 in
set_option maxHeartbeats 800000 in
theorem refs_Total (sb : Nat) (L : RLay) (wv : Value) (s : SS) (w : World) (h : RStL sb L wv s w) (hW : s.W.length ≤ 8000) :
    Calls Tryz.prog 18 #[.pointer (some ⟨sb, 0, none⟩)] w fun e w' => e = .returned (.int .i64 s.total) ∧ w = w' := by
  have HST := Lib.hid (fun k => refs_Staked sb L wv s w k h)
  have HO := Lib.hid h.ok
  obtain ⟨ao, cap, rfl, R⟩ := h.rd
  have t1 := h.top.cell 1
  simp only [List.getElem?_cons_zero, List.getElem?_cons_succ] at t1
  have HR := Lib.hid R
  have HP := Lib.hid (fun i x (hx : s.W[i]? = some x) => (h.poo (i + 3) x.q (by rw [SS.rget_wait, hx]; rfl)).1.row.cell 0)
  have HALL := Lib.hid (tot_all h.ok)
  clear R h
  obtain ⟨len, hlen⟩ : ∃ len, s.W.length = len := ⟨_, rfl⟩
  rw [hlen] at hW t1 HR HALL
  have HLEN := Lib.hid hlen; clear hlen
  go_enter Tryz.func18, Tryz.ntmps18
  go_wp2_with fail
  go_loopg [3, 4] 3 (fun g n i wr => ∃ k : Nat, wr = w ∧ g + k = 3 ∧ i = .int .i64 k ∧ n = .int .i64 (totP s k))
  case atStart => exact ⟨0, rfl, rfl, rfl, rfl⟩
  case round =>
    obtain ⟨k, rfl, hg, rfl, rfl⟩ := hrel
    by_cases hk : k < 3
    · have HG := Lib.hid hg; clear hg
      obtain ⟨s1, s2⟩ := stk_bd HO.out k
      obtain ⟨b1, b2⟩ := totP_bd HO.out (k := k) (by omega)
      have HS1 := Lib.hid (totP_step HO.out hk)
      have HC := Lib.hid (HST.out (k : Int))
      generalize s.staked (k : Int) = u at *
      generalize totP s k = v at *
      go_wp2_with fail
      refine HC.out.mono ?_
      rintro e w1 ⟨rfl, rfl⟩
      go_wp2_with fail
      have hg := HG.out
      go_roundg (3 - (k + 1))
      case measure => omega
      case rel => exact ⟨k + 1, rfl, by omega, by go_num, by rw [HS1.out]⟩
    · have hk3 : k = 3 := by omega
      subst hk3
      obtain ⟨b1, b2⟩ := totP_bd HO.out (k := 3) (by omega)
      generalize totP s 3 = v3 at *
      go_wp2_with fail
      go_loopg [3, 5] len (fun g n i wx => ∃ t : Nat, wx = wr ∧ g + t = len ∧ i = .int .i64 t ∧ n = .int .i64 (v3 + totW s t))
      case atStart => exact ⟨0, rfl, rfl, rfl, by rw [show totW s 0 = 0 from rfl, Int.add_zero]⟩
      case round =>
        obtain ⟨t, rfl, hg, rfl, rfl⟩ := hrel
        have HG := Lib.hid hg; clear hg
        by_cases hlt : t < len
        · obtain ⟨x, hx⟩ : ∃ x, s.W[t]? = some x := ⟨_, List.getElem?_eq_getElem (by rw [HLEN.out]; exact hlt)⟩
          obtain ⟨bb, off, rfl, hbl, hcs⟩ := HR.out.cells t _ (zip_get hx)
          have c2 := hcs 2 (by decide)
          have q0 := HP.out t x hx
          simp only [waitE, List.getElem?_cons_zero, List.getElem?_cons_succ] at c2 q0
          have hqo := (HO.out.waits x (List.mem_of_getElem? hx)).1
          have x1 := hqo.t0; have x2 := hqo.t1
          obtain ⟨b3, b4⟩ := totW_bd HO.out (i := t) (by rw [HLEN.out]; omega)
          have HS1 := Lib.hid (totW_step hx)
          clear hcs hbl hx hqo
          generalize x.q.total = u at *
          generalize totW s t = v at *
          go_wp2_with fail
          have hg := HG.out
          go_roundg (len - (t + 1))
          case measure => omega
          case rel => exact ⟨t + 1, rfl, by omega, by go_num, by rw [HS1.out, Int.add_assoc]⟩
        · have ht : t = len := by have := HG.out; omega
          subst ht
          rw [HALL.out]
          go_wp2_with fail
          go_ret
          exact ⟨rfl, rfl⟩
end Go.Proofs.YtajnfkmkombajacGreatDoor
namespace Go.Proofs.YtajnfkmkombajacGreatDoor
open Go.RowKit Go.Maps

def WP.bc (x : WP) : Int × Int := (x.b, x.c)
theorem waitsE_same (L : RLay) : ∀ (l l' : List WP) (n : Nat), l.map WP.bc = l'.map WP.bc → (l.zipIdx n).flatMap (waitE L) = (l'.zipIdx n).flatMap (waitE L)
  | [], [], _, _ => rfl
  | [], _ :: _, _, h => by cases h
  | _ :: _, [], _, h => by cases h
  | x :: l, y :: l', n, h => by
    simp only [List.map_cons, List.cons.injEq, WP.bc, Prod.mk.injEq] at h
    rw [List.zipIdx_cons, List.zipIdx_cons, List.flatMap_cons, List.flatMap_cons, waitsE_same L l l' (n + 1) h.2]
    unfold waitE; rw [h.1.1, h.1.2]
theorem SS.Ok.same {s : SS} (h : s.Ok) {W' : List WP} (hbc : W'.map WP.bc = s.W.map WP.bc) (hq : ∀ x ∈ W', x.q.Ok) : SS.Ok ⟨s.P, W'⟩ := by
  refine ⟨h.three, h.pools, fun x hx => ?_, ?_⟩
  · have hm : x.bc ∈ s.W.map WP.bc := by rw [← hbc]; exact List.mem_map_of_mem hx
    obtain ⟨y, hy, he⟩ := List.mem_map.1 hm
    obtain ⟨-, w2, w3⟩ := h.waits y hy
    simp only [WP.bc, Prod.mk.injEq] at he
    rw [← he.1, ← he.2]
    exact ⟨hq x hx, w2, w3⟩
  · have h1 : (s.W.map WP.bc).Pairwise (fun a b => ¬ (a.1 = b.1 ∧ a.2 = b.2)) := List.pairwise_map.2 h.apart
    rw [← hbc] at h1
    exact List.pairwise_map.1 h1
theorem set_bc {l : List WP} {i : Nat} {x : WP} (hx : l[i]? = some x) (q : QS) : (l.set i ⟨x.b, x.c, q⟩).map WP.bc = l.map WP.bc := by
  apply List.ext_getElem?
  intro m
  rw [List.getElem?_map, List.getElem?_map, List.getElem?_set]
  by_cases h : i = m
  · subst h
    rw [if_pos rfl, hx]
    have hl : i < l.length := (List.getElem?_eq_some_iff.1 hx).1
    rw [if_pos hl]; rfl
  · rw [if_neg h]
/-- what waits at i has the pool q' now -/
theorem RStL.wait {sb : Nat} {L : RLay} {wv : Value} {s : SS} {w w' : World} (h : RStL sb L wv s w) {i : Nat} {x : WP} {q' : QS} (hx : s.W[i]? = some x) (hP : RPoolP (L.pb (i + 3)) (L.ps (i + 3)) (L.pc (i + 3)) q' w w') :
    RStL sb L wv ⟨s.P, s.W.set i ⟨x.b, x.c, q'⟩⟩ w' := by
  have hl : i < s.W.length := (List.getElem?_eq_some_iff.1 hx).1
  refine h.pool (j := i + 3) (q := x.q) (by rw [SS.rget_wait, hx]; rfl) hP ?_ ?_ (List.length_set ..) ?_
  · refine h.ok.same (set_bc hx q') (fun y hy => ?_)
    rcases List.mem_or_eq_of_mem_set hy with hy | rfl
    · exact (h.ok.waits y hy).1
    · exact hP.2.ok
  · intro j
    by_cases hj : j < 3
    · rw [if_neg (by omega)]; unfold SS.rget; rw [if_pos hj, if_pos hj]
    · obtain ⟨m, rfl⟩ : ∃ m, j = m + 3 := ⟨j - 3, by omega⟩
      rw [SS.rget_wait, SS.rget_wait, List.getElem?_set]
      by_cases hm : i = m
      · subst hm; rw [if_pos rfl, if_pos hl, if_pos rfl]; rfl
      · rw [if_neg hm, if_neg (by omega)]
  · exact waitsE_same L _ _ 0 (set_bc hx q')

/-- all that waits is changed by f, so far as i -/
def partW (f : WP → WP) (l : List WP) (i : Nat) : List WP := l.mapIdx fun j x => if j < i then f x else x
theorem partW_get (f : WP → WP) (l : List WP) (i j : Nat) : (partW f l i)[j]? = (l[j]?).map (fun x => if j < i then f x else x) := by
  unfold partW; rw [List.getElem?_mapIdx]
theorem partW_len (f : WP → WP) (l : List WP) (i : Nat) : (partW f l i).length = l.length := List.length_mapIdx
theorem partW_zero (f : WP → WP) (l : List WP) : partW f l 0 = l := by
  apply List.ext_getElem?
  intro j; rw [partW_get]; cases l[j]? <;> simp
theorem partW_all (f : WP → WP) (l : List WP) : partW f l l.length = l.map f := by
  apply List.ext_getElem?
  intro j; rw [partW_get, List.getElem?_map]
  by_cases hj : j < l.length
  · rw [List.getElem?_eq_getElem hj]; simp [hj]
  · rw [List.getElem?_eq_none (by omega)]; rfl
theorem partW_here {f : WP → WP} {l : List WP} {i : Nat} {x : WP} (hx : l[i]? = some x) : (partW f l i)[i]? = some x := by rw [partW_get, hx]; simp
theorem partW_step {f : WP → WP} {l : List WP} {i : Nat} {x : WP} (hx : l[i]? = some x) : (partW f l i).set i (f x) = partW f l (i + 1) := by
  have hl : i < l.length := (List.getElem?_eq_some_iff.1 hx).1
  apply List.ext_getElem?
  intro j
  rw [List.getElem?_set, partW_get, partW_get, partW_len]
  by_cases hj : i = j
  · subst hj; rw [if_pos rfl, if_pos hl, hx]; simp
  · rw [if_neg hj]
    congr 1
    funext y
    by_cases h1 : j < i
    · rw [if_pos h1, if_pos (by omega)]
    · rw [if_neg h1, if_neg (by omega)]
theorem partW_same {f : WP → WP} {l : List WP} {i : Nat} {x : WP} (hx : l[i]? = some x) (hf : f x = x) : partW f l (i + 1) = partW f l i := by
  rw [← partW_step hx, hf]
  apply List.ext_getElem?
  intro j
  rw [List.getElem?_set]
  by_cases hj : i = j
  · subst hj; rw [if_pos rfl, partW_here hx, if_pos (by rw [partW_len]; exact (List.getElem?_eq_some_iff.1 hx).1)]
  · rw [if_neg hj]
end Go.Proofs.YtajnfkmkombajacGreatDoor
