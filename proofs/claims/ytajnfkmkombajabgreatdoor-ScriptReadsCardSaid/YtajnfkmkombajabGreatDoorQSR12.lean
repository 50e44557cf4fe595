/-
  Contract: the cycles in which something waits with a baker, rising.
  The walk of stake.Slash.
-/
import Derived.Test.YtajnfkmkombajabGreatDoorQSR11
import Derived.Test.YtajnfkmkombajabGreatDoorQSR03
import Derived.Sort.OwnSortedInts
set_option linter.unusedVariables false
set_option linter.unusedSimpArgs false
set_option linter.unusedVariables false
namespace Go.Proofs.YtajnfkmkombajabGreatDoor
open Go.RowKit Go.Maps

/-- what was met so far: each key that is no longer to come, once -/
structure Met (D : DataW Unit) (left : Lit → Bool) (zs : List Int) : Prop where
  nodup : zs.Nodup
  mem : ∀ c : Int, c ∈ zs ↔ (Maps.has D (.int .i64 c) = true ∧ left (.int .i64 c) = false)
theorem Met.start (D : DataW Unit) : Met D (Maps.has D) [] := ⟨List.nodup_nil, fun c => ⟨fun h => (by cases h), fun ⟨h1, h2⟩ => by rw [h1] at h2; cases h2⟩⟩
theorem has_of_at {D : DataW Unit} {kl : Lit} {y : DataW Unit} (h : ∀ zd, D.atKey kl zd = y) : Maps.has D kl = true := by
  cases hc : Maps.has D kl with
  | true => rfl
  | false =>
    have h1 := h .nil; have h2 := h (.lit (.bool true))
    rw [atKey_of_not_has hc] at h1 h2
    rw [← h1] at h2; cases h2
theorem Met.step {D : DataW Unit} {left : Lit → Bool} {zs : List Int} (h : Met D left zs) {x : Int} (hl : left (.int .i64 x) = true) (hh : Maps.has D (.int .i64 x) = true) : Met D (fun z => left z && !z.sameKey (.int .i64 x)) (zs ++ [x]) := by
  refine ⟨?_, fun c => ?_⟩
  · rw [List.nodup_append]
    refine ⟨h.nodup, by simp, fun a ha b hb e => ?_⟩
    obtain rfl := List.mem_singleton.1 hb
    subst e
    have := ((h.mem a).1 ha).2
    rw [hl] at this; cases this
  · have e : (Lit.int .i64 c).sameKey (.int .i64 x) = (c == x) := by
      by_cases h : c = x
      · subst h; simp [Lit.sameKey]
      · simp [Lit.sameKey, h]
    rw [List.mem_append, List.mem_singleton, h.mem c, e]
    by_cases hx : c = x
    · subst hx; simp [hh]
    · simp [hx]

/-- a list of numbers of the call's own, however it lies -/
def KeysPost (s : SS) (k : Nat) (w : World) (e : Ending) (w' : World) : Prop :=
  ∃ ao cap zs, e = .returned (.slice ao zs.length cap) ∧ RdI .i64 w' ao zs.length cap zs ∧ zs.Nodup ∧ (∀ c ∈ zs, (s.find k c).isSome = true) ∧ (∀ x ∈ s.W, x.b = (k : Int) → x.c ∈ zs) ∧ (∀ a, ao = some a → w.heap.size ≤ a.block) ∧ Below w.heap.size w w'

theorem keys_all {s : SS} {L : Lay} {k : Nat} (hs : s.Ok) {D : DataW Unit} (hD : ∀ c : Int, D.atKey (.int .i64 c) .nil = waitD L k c (s.find k c)) {left : Lit → Bool} {zs : List Int} (h : Met D left zs) (hl : ∀ kl, left kl = false) :
    ∀ x ∈ s.W, x.b = (k : Int) → x.c ∈ zs := by
  intro x hx' he
  refine (h.mem x.c).2 ⟨?_, hl _⟩
  cases hc : Maps.has D (.int .i64 x.c) with
  | true => rfl
  | false =>
    have h1 := hD x.c
    have hf := SS.find_mem hs.apart hx'
    rw [he] at hf
    rw [atKey_of_not_has hc, hf] at h1
    simp [waitD] at h1
theorem sorted_keys (zs : List Int) : (zs.mergeSort fun x y => decide (x ≤ y)).length = zs.length ∧ (zs.Nodup → (zs.mergeSort fun x y => decide (x ≤ y)).Nodup) ∧ ∀ c, c ∈ (zs.mergeSort fun x y => decide (x ≤ y)) ↔ c ∈ zs := by
  have hp := List.mergeSort_perm zs (fun x y => decide (x ≤ y))
  exact ⟨hp.length_eq, fun h => hp.nodup_iff.2 h, fun c => hp.mem_iff⟩

set_option maxRecDepth 8000 in
set_option maxHeartbeats 2000000 in
theorem stake_cycles (sb m : Nat) (F : Nat → Prop) (L : Lay) (s : SS) (k : Nat) (w : World) (h : StakesL sb L m s w) (hk : k < 3) (hi : s.is k = true) (hm : m ≤ 1000000) :
    Calls Tryz.prog 167 #[.pointer (some ⟨L.bb k, 0, none⟩)] w (KeysPost s k w) := by
  obtain ⟨x0, x1⟩ := h.baker hk hi
  obtain ⟨rw0, D, hD0, hD1⟩ := h.wai k hk hi
  obtain ⟨i0, hi0, hz0, hz1, hz2⟩ := info_parts (show (Tryz.prog.info? 3).map (fun i => (i.zero, i.size, i.bytes)) = some (some (.int .i64 0), 1, 8) by kernel_rfl)
  have HD0 := Lib.hid hD0; have HD1 := Lib.hid hD1
  have hok := Lib.hid h.ok
  have hwm := hD0.lt
  have hsz := Lib.hid hD0.size_le
  clear h rw0 hD0 hD1 hi
  go_enter Tryz.func167, Tryz.ntmps167
  go_wp2_with (at_range; refine wpList_range_own _ rfl _ 91 rfl 3 89 keyI Tryz.underlying91 blkElem (L.wm k) m D rfl HD0.out ?_; intro w0 hrg0 hg0 hs0; have HRG0 := Lib.hid hrg0; have HB0 := Lib.hid ((Below.refl w.heap.size w).grown hg0 (Nat.le_refl _) (fun b hb => by cases hb)); have HS0 := Lib.hid hs0; clear hrg0 hg0 hs0)
  (try go_frame)
  go_loopw [3] (fun v wx => ∃ left cnt zs, wx.ranges Tryz.prog 3 blkElem (L.wm k) w.heap.size m D left cnt ∧ wx.ownsRow (w.heap.size + 1) 3 1 v zs.length (zs.map (Value.int .i64)) ∧ Met D left zs ∧ (∀ c ∈ zs, (s.find k c).isSome = true) ∧ zs.length + cnt ≤ m ∧ Below w.heap.size w wx ∧ w.heap.size < wx.heap.size) (fun _ wx => wx.rangeLeft (L.wm k) w.heap.size)
  case atStart => exact ⟨_, _, [], HRG0.out, World.ownsRow_nil _ _ _ _, Met.start D, (fun c hc => by cases hc), by have := hsz.out; simp; exact this, HB0.out, by rw [HS0.out]; omega⟩
  case round =>
    obtain ⟨left, cnt, zs, hrg, hown, hmet, hall, hc, hb, hlt⟩ := hrel
    have HRG := Lib.hid hrg; have HO := Lib.hid hown; have HM := Lib.hid hmet; have HB := Lib.hid hb; have HAL := Lib.hid hall
    clear hrg hown hmet hb hall
    go_wp2_with (at_next; refine wpList_next_ranges _ rfl _ rfl 3 keyI blkElem (Value.int .i64) blkV keyInt_inv blkV_inv (L.wm k) w.heap.size m D left cnt rfl HRG.out ?_ ?_)
    · intro _ hl0
      have HA := Lib.hid (keys_all hok.out HD1.out HM.out hl0)
      obtain ⟨sl, sn, sm⟩ := sorted_keys zs
      rcases HO.out.2 with ⟨hv, hz⟩ | ⟨g, cap, cur, hv, hbase, hgb, h1, h2', h3, h4⟩
      · subst hv
        have hz0 : zs = [] := List.eq_nil_of_length_eq_zero hz
        have Hz := Lib.hid hz0
        clear hz hz0 sl sn sm hl0
        go_wp2_with (go_at_call 180; refine (Tryz.slices_Sort_int_none _ _ _).mono ?_; rintro e w2 ⟨rfl, rfl⟩)
        go_ret
        exact ⟨none, 0, [], rfl, RdI.nil _ _, List.nodup_nil, (fun c hc => by cases hc), (fun x hx he => by have := HA.out x hx he; rw [Hz.out] at this; cases this), (fun a h => by cases h), HB.out⟩
      · subst hv
        have hgl := lt_of_block hgb
        have HSO := Lib.hid (Tryz.slices_Sort_int g 0 cap zs wr (holds_of_blockI hgb (by simpa using h4)) hgl (by omega))
        have HRS := Lib.hid (fun n os => ownsRow_sortedI (n := n) (os := os) (ts := zs.mergeSort fun x y => decide (x ≤ y)) sl hbase hgb h1 h2' h3)
        have HSL := Lib.hid sl; have HSN := Lib.hid (sn HM.out.nodup); have HSM := Lib.hid sm
        have Hbs := Lib.hid hbase
        generalize hts : (zs.mergeSort fun x y => decide (x ≤ y)) = ts at *
        generalize hln : zs.length = nn at *
        have Hln := Lib.hid hln
        clear hgb h1 h2' h3 h4 sl sn sm hl0 hbase hts hln
        go_wp2_with (go_at_call 180; refine HSO.out.mono ?_; rintro e w2 ⟨rfl, n2, os2, rfl⟩)
        go_ret
        refine ⟨some ⟨g, 0, none⟩, cap, ts, by rw [HSL.out]; rfl, by have := RdI.of_own (HRS.out n2 os2); rw [← HSL.out] at this; exact this, HSN.out, fun c hc => HAL.out c ((HSM.out c).1 hc), fun x hx he => (HSM.out _).2 (HA.out x hx he), (fun a h => by cases h; exact Nat.le_of_succ_le Hbs.out), ?_⟩
        exact HB.out.grown (grownBy_sortedI _) HB.out.size (fun b hb => by cases hb; have := Hbs.out; omega)
    · intro x cb kl yd yp w1 cnt1 hkey hlk hv hat hrg1 hlt1 hg1 hs1 hen
      obtain ⟨rfl, hxw⟩ := keyInt_is hkey
      have HM1 := Lib.hid (HM.out.step hlk (has_of_at hat))
      obtain ⟨qx, hfx, _⟩ := wait_entry HD1.out hv hat
      have HAL1 := Lib.hid (show ∀ c ∈ zs ++ [x], (s.find k c).isSome = true from fun c hc => by
        rcases List.mem_append.1 hc with hc | hc
        · exact HAL.out c hc
        · obtain rfl := List.mem_singleton.1 hc; rw [hfx]; rfl)
      have HB1 := Lib.hid (HB.out.grown hg1 HB.out.size (fun b hb => by cases hb; exact Nat.le_refl _))
      have HO1 := Lib.hid (HO.out.kept hg1 (.inr fun e => row_ne_iter HO.out HRG.out e.symm))
      have hsl : w1.heap.size = wr.heap.size := hs1
      have HSL := Lib.hid hsl
      have HRG1 := Lib.hid hrg1
      have hen' : (Instr.entry (.pointer (some ⟨w.heap.size, 0, none⟩))).run Tryz.prog w1 = .ok (.tuple #[.int .i64 x, .pointer (some ⟨cb, 0, none⟩)]) w1 := hen
      clear hkey hlk hv hat hrg1 hg1 hs1 hen hsl hfx
      go_wp2_with (at_builtin; refine wpList_append_own _ rfl (.tmp 14) (.tmp 16) 58 rfl (w.heap.size + 1) 3 i0 (.int .i64 0) 1 8 Tryz.underlying58 hi0 hz0 hz1 hz2 rfl (by decide) u3 zs.length (zs.map (Value.int .i64)) rfl (HO1.out.alloc _) ⟨_, 0, none⟩ 1 1 [.int .i64 x] rfl rfl (cell_one_at _ _ _ _ (by simp)) (ints_oneCell _ [_]) (by unfold maxLen; omega) (by omega) (by have := HSL.out; simp; omega) ?_)
      intro v' w2 ho2 hg2 _
      have HB2 := Lib.hid (Below.grown (HB1.out.alloc HB1.out.size (.cells #[.int .i64 x] 3)) hg2 (by have := HSL.out; simp; omega) (fun j hj => Nat.le_of_succ_le (HO1.out.lt j hj).1))
      have HR2 := Lib.hid ((HRG1.out.alloc (.cells #[.int .i64 x] 3)).kept hg2 (row_ne_low HO1.out (by omega)) (row_ne_low HO1.out (by omega)))
      have HO2 := Lib.hid (show w2.ownsRow (w.heap.size + 1) 3 1 v' (zs ++ [x]).length ((zs ++ [x]).map (Value.int .i64)) by rw [List.map_append, List.length_append]; exact ho2)
      have hs2 := hg2.size
      have hz2' : w.heap.size < w2.heap.size := by have := HSL.out; simp at hs2; omega
      clear ho2 hg2 hs2
      go_wp2_with fail
      go_roundw
      case rel => exact ⟨_, cnt1, zs ++ [x], HR2.out, HO2.out, HM1.out, HAL1.out, by simp; omega, HB2.out, hz2'⟩
      case measure => rw [HR2.out.left_eq, HRG.out.left_eq]; omega
end Go.Proofs.YtajnfkmkombajabGreatDoor
namespace Go.Proofs.YtajnfkmkombajabGreatDoor
open Go.RowKit Go.Maps

theorem RdI.keep {k : IntKind} {w w' : World} {ao : Option Addr} {len cap : Nat} {zs : List Int} {F : Nat → Prop} (h : RdI k w ao len cap zs) (hk : Keep F w w') (hF : ∀ a, ao = some a → ¬ F a.block) : RdI k w' ao len cap zs := by
  refine ⟨h.size, h.lc, h.cm, h.nul, fun i hi => ?_⟩
  obtain ⟨b, off, ha, hc⟩ := h.cells i hi
  exact ⟨b, off, ha, by rw [hk.cell (p := ⟨b, off + i, none⟩) (World.block_lt_of_cell? w _ hc) (show ¬ F b from hF ⟨b, off, none⟩ ha)]; exact hc⟩
/-- what waits with baker k since these cycles -/
def dz (k : Int) (l : List Int) : Int → Int → Bool := fun b x => b == k && l.contains x
theorem dz_snoc (k : Int) (l : List Int) (x : Int) : dz k (l ++ [x]) = addD (dz k l) k x := by
  funext b y
  have e : (l ++ [x]).contains y = (l.contains y || y == x) := by
    rw [List.contains_eq_any_beq, List.contains_eq_any_beq, List.any_append]; simp
  show (b == k && (l ++ [x]).contains y) = ((b == k && l.contains y) || (b == k && y == x))
  rw [e]; cases (b == k) <;> simp
theorem dz_not {k : Int} {l : List Int} {x : Int} (h : x ∉ l) : dz k l k x = false := by unfold dz; simp [h]
theorem dz_nil (k b x : Int) : dz k [] b x = false := by unfold dz; simp

theorem WP.slash_keeps (k f p : Int) : ∀ x : WP, (x.slash k f p).b = x.b ∧ (x.slash k f p).c = x.c := fun x => WP.slash_b k f p x
theorem slash_miss {s : SS} {k f p : Int} {d : Int → Int → Bool} {x : Int} {q : QS} (hs : s.Ok) (hf : s.find k x = some q) (hd : d k x = false) (hx : x < f) :
    s.partF (addD d k x) (·.slash k f p) = s.partF d (·.slash k f p) ∧ s.sumF (addD d k x) (·.loses k f p) = s.sumF d (·.loses k f p) := by
  have hm : (WP.mk k x q).hit k f = false := by unfold WP.hit; simp; omega
  have h1 : (WP.mk k x q).slash k f p = ⟨k, x, q⟩ := by unfold WP.slash; rw [hm]; rfl
  have h2 : (WP.mk k x q).loses k f p = 0 := by unfold WP.loses; rw [hm]; rfl
  refine ⟨?_, by rw [SS.sumF_add hs hf hd, h2]; omega⟩
  unfold SS.partF
  congr 1
  refine List.map_congr_left fun y hy => ?_
  by_cases e : y.b = k ∧ y.c = x
  · have hy2 := SS.find_mem hs.apart hy
    rw [e.1, e.2, hf] at hy2
    have hyy : y = ⟨k, x, q⟩ := by
      obtain ⟨yb, yc, yq⟩ := y
      simp only at e hy2
      obtain ⟨rfl, rfl⟩ := e
      cases hy2; rfl
    rw [hyy]; simp only [h1]; split <;> split <;> rfl
  · rw [addD_other e]
theorem slash_hit {s : SS} {k f p : Int} {d : Int → Int → Bool} {x : Int} {q : QS} (hs : s.Ok) (hf : s.find k x = some q) (hd : d k x = false) (hx : ¬ x < f) :
    s.sumF (addD d k x) (·.loses k f p) = s.sumF d (·.loses k f p) + (q.slashOp p).1 ∧ ((WP.mk k x q).slash k f p).q = (q.slashOp p).2.2 := by
  have hm : (WP.mk k x q).hit k f = true := by unfold WP.hit; simp; omega
  have h1 : (WP.mk k x q).loses k f p = (q.slashOp p).1 := by unfold WP.loses; rw [hm]; rfl
  exact ⟨by rw [SS.sumF_add hs hf hd, h1], by unfold WP.slash; rw [hm]; rfl⟩
/-- at the end all that is hit is done -/
theorem slash_end {s : SS} {k f p : Int} {l : List Int} (h : ∀ x ∈ s.W, x.b = k → x.c ∈ l) : s.partF (dz k l) (·.slash k f p) = ⟨s.P, s.W.map (·.slash k f p)⟩ ∧ s.sumF (dz k l) (·.loses k f p) = (s.W.map (·.loses k f p)).sum := by
  have hm : ∀ x ∈ s.W, dz k l x.b x.c = false → x.hit k f = false := fun x hx hd => by
    unfold dz at hd
    unfold WP.hit
    by_cases e : x.b = k
    · have := h x hx e
      rw [e] at hd; simp [this] at hd
    · rw [beq_eq_false_iff_ne.2 e]; rfl
  constructor
  · unfold SS.partF
    congr 1
    refine List.map_congr_left fun x hx => ?_
    cases hd : dz k l x.b x.c with
    | true => rfl
    | false => simp only [Bool.false_eq_true, if_false]; unfold WP.slash; rw [hm x hx hd]; rfl
  · unfold SS.sumF
    congr 1
    refine List.map_congr_left fun x hx => ?_
    cases hd : dz k l x.b x.c with
    | true => rfl
    | false => simp only [Bool.false_eq_true, if_false]; unfold WP.loses; rw [hm x hx hd]; rfl

theorem slash_no {s : SS} {k f p : Int} (h : s.is k = false) : s.slashOp k f p = (0, 4, s) := by unfold SS.slashOp; rw [SS.is_none h]
theorem slash_bad {s : SS} {k f p : Int} {q : QS} (h : s.pool k = some q) (hc : (q.slashOp p).2.1 ≠ 0) : s.slashOp k f p = (0, (q.slashOp p).2.1, s) := by unfold SS.slashOp; rw [h]; simp only; rw [if_pos hc]
theorem slash_in {s : SS} {k f p : Int} {q : QS} (h : s.pool k = some q) (hc : (q.slashOp p).2.1 = 0) : s.slashOp k f p = ((q.slashOp p).1 + (s.W.map (·.loses k f p)).sum, 0, ⟨s.P.set k.toNat (some (q.slashOp p).2.2), s.W.map (·.slash k f p)⟩) := by
  unfold SS.slashOp; rw [h]; simp only; rw [if_neg (by simp [hc])]

set_option maxRecDepth 8000 in
set_option maxHeartbeats 4000000 in
theorem stake_Slash (A : Nat → Addr) (S : List Nat) (sb m : Nat) (F : Nat → Prop) (s : SS) (k f p : Int) (w : World) (h : StakesAt sb F m s w) (hE : Errs A S w) (h2 : 2 ∈ S) (h4 : 4 ∈ S) (hFE : ∀ c ∈ S, ¬ F (gE c))
    (hW : s.W.length ≤ 8000) (hm : m ≤ 1000000) :
    Calls Tryz.prog 139 #[.pointer (some ⟨sb, 0, none⟩), .int .i64 k, .int .i64 f, .int .i64 p] w fun e w' => e = .returned (.tuple #[.int .i64 (s.slashOp k f p).1, ev A (s.slashOp k f p).2.1]) ∧ StakesP sb F m (s.slashOp k f p).2.2 w w' := by
  obtain ⟨L, hL, hF, hlt⟩ := h
  rcases reg_cases hL.ok k with hi | ⟨j, rfl, hj, hi⟩
  · have E := Lib.hid (slash_no (f := f) (p := p) hi)
    have HB := Lib.hid (stake_baker_no A S sb L m s k w hL hi hE h4)
    have HS := Lib.hid (StakesP.refl (F := F) ⟨L, hL, hF, hlt⟩)
    clear hL hF hlt hi hE hFE
    go_enter Tryz.func139, Tryz.ntmps139
    go_wp2_with (go_at_call 78; refine HB.out.mono ?_; rintro e w' ⟨rfl, d, rfl⟩)
    go_ret2
    rw [E.out]
    exact ⟨rfl, HS.out.drewN d⟩
  · obtain ⟨q, hq, hg⟩ := SS.is_some hi
    have HB := Lib.hid (stake_baker_yes sb L m s j w hL hj hi)
    obtain ⟨c0, c1⟩ := hL.baker hj hi
    have HP := Lib.hid (pool_Slash0 A S _ _ m q p w hE h2 (hL.poo j none q hj hg).1)
    have hq1 := QS.slashOp_ok (hL.ok.poolOk hq) p
    obtain ⟨g1, g2⟩ := SS.setP_get hL.ok hj (q.slashOp p).2.2
    have hok1 := hL.ok.setP (k := (j : Int)) (by omega) (by omega) hq1
    have lb := (QS.slash_total (hL.ok.poolOk hq) p).2.1
    by_cases hc : (q.slashOp p).2.1 = 0
    · have E := Lib.hid (slash_in (f := f) hq hc)
      have ec : ev A (q.slashOp p).2.1 = .nilIface := by rw [hc]; rfl
      -- the state with the baker's own pool slashed
      have hT := fun w1 (hp : PoolP (L.pb j none) (L.pm j none) m (q.slashOp p).2.2 w w1) => hL.turn hj hg hp (Nat.le_refl m) hok1 (fun j' hj' => g1 j' hj' hi) g2
      have HT := Lib.hid hT
      have hFr : ∀ b, (b = L.pb j none ∨ b = L.pm j none) → F b := fun b hb => by
        obtain ⟨_, a1, a2⟩ := hL.poo j none q hj hg
        rcases hb with rfl | rfl
        · exact hF _ (by rw [a1]; simp)
        · exact hF _ (by rw [a2]; simp)
      have HFK := Lib.hid (fun w1 (hp : PoolP (L.pb j none) (L.pm j none) m (q.slashOp p).2.2 w w1) => (show FK A S F w w from ⟨Keep.refl _ _, hE⟩).step hp.1 hFr hFE)
      obtain ⟨s1, hs1⟩ : ∃ s1, s1 = s.setP j (q.slashOp p).2.2 := ⟨_, rfl⟩
      rw [← hs1] at HT hok1
      have HW1 : s1.W = s.W := by rw [hs1]; rfl
      have hi1 : s1.is j = true := by rw [hs1]; exact SS.is_setP hL.ok (by omega) (by omega) _ hi
      have HE1 := Lib.hid (show s.slashOp j f p = ((q.slashOp p).1 + (s1.W.map (·.loses j f p)).sum, 0, ⟨s1.P, s1.W.map (·.slash j f p)⟩) by rw [E.out, hs1]; rfl)
      have hok1' := Lib.hid hok1
      have HWl := Lib.hid HW1
      have HB1 := Lib.hid (fun d => SS.sumF_bd (done := d) (g := fun x => x.loses j f p) hok1 (fun x hx => WP.loses_bd j f p x hx))
      have HOKP := Lib.hid (fun d => hok1.partF (done := d) (WP.slash_keeps j f p) (WP.slash_ok j f p))
      have HPS := Lib.hid (fun b mb n q wx hE hp => pool_Slash0 A S b mb n q p wx hE h2 hp)
      have HFF := Lib.hid hF; have HFL := Lib.hid hlt; have HFE := Lib.hid hFE
      have HEL := Lib.hid (fun c hc => hE.lt (c := c) hc)
      have hbb : L.bb j < w.heap.size := hlt _ (hF _ (by rw [(hL.bak j hj hi).2]; simp))
      have HR := Lib.hid (show ∀ b, w.heap.size ≤ b → L.role b = .none from fun b hb => role_new hF hlt hb)
      have hWl : s1.W.length ≤ 8000 := by rw [HW1]; exact hW
      have Hi1 := Lib.hid hi1
      clear hT hL hF hlt hE hFE hq hg hc g1 g2 hq1 hFr hs1 hok1 HW1 E HWl hi1
      generalize (q.slashOp p).1 = T0 at *
      go_enter Tryz.func139, Tryz.ntmps139
      go_wp2_with (first
        | (go_at_call 78; refine HB.out.mono ?_; rintro e w' ⟨rfl, rfl⟩)
        | (go_at_call 166; refine HP.out.mono ?_; rintro e w1 ⟨rfl, hp1⟩; rw [ec]; have HL1 := Lib.hid (HT.out w1 hp1); have HK1 := Lib.hid (HFK.out w1 hp1); clear hp1))
      refine (stake_cycles sb m F L s1 j w1 HL1.out hj Hi1.out hm).mono ?_
      rintro e w2 ⟨ao, cap, zs, rfl, hrd, hnd, hfd, hall, hnew, hb2⟩
      have HL2 := Lib.hid (HL1.out.keep (F := fun _ => False) (Keep.of_below hb2) (fun _ _ => id))
      have HK2 := Lib.hid (HK1.out.step (G := fun _ => False) (Keep.of_below hb2) (fun _ h => h.elim) HFE.out)
      have HRD := Lib.hid hrd; have HND := Lib.hid hnd; have HFD := Lib.hid hfd; have HALL := Lib.hid hall
      have HS0 := Lib.hid (show s1.sumF (dz j []) (·.loses j f p) = 0 from SS.sumF_none (fun x _ => dz_nil _ _ _))
      have HP0 := Lib.hid (show s1.partF (dz j []) (·.slash j f p) = s1 from SS.partF_none (fun x _ => dz_nil _ _ _))
      have HNW := Lib.hid (show ∀ a, ao = some a → w.heap.size ≤ a.block from fun a ha => Nat.le_trans HK1.out.keep.size (hnew a ha))
      have hzm : zs.length ≤ maxLen := Nat.le_trans hrd.lc hrd.cm
      clear hrd hnd hfd hall hb2 HL1 HK1 c0 c1 hnew
      unfold maxLen at hzm
      go_wp2_with fail
      go_loopw [12, 41] (fun su i wx => ∃ t : Nat, t ≤ zs.length ∧ i = .int .i64 t ∧ su = .int .i64 (T0 + s1.sumF (dz j (zs.take t)) (·.loses j f p)) ∧ StakesL sb L m (s1.partF (dz j (zs.take t)) (·.slash j f p)) wx ∧ FK A S F w wx ∧ RdI .i64 wx ao zs.length cap zs) (fun _ i _ => zs.length - (intOf i).toNat)
      case atStart => exact ⟨0, Nat.zero_le _, rfl, by rw [List.take_zero, HS0.out]; simp, by rw [List.take_zero, HP0.out]; exact HL2.out, HK2.out, HRD.out⟩
      case round =>
        obtain ⟨t, ht, rfl, rfl, hLr, hKr, hRr⟩ := hrel
        have HLr := Lib.hid hLr; have HKr := Lib.hid hKr; have HRr := Lib.hid hRr
        clear hLr hKr hRr HL2 HK2 HRD
        by_cases htl : t < zs.length
        · obtain ⟨b, off, ha, hcx⟩ := HRr.out.cells t htl
          obtain ⟨x, hx⟩ : ∃ x, x = zs.getD t 0 := ⟨_, rfl⟩
          rw [← hx] at hcx
          have hxz : x ∈ zs := by rw [hx, List.getD_eq_getElem?_getD, List.getElem?_eq_getElem htl]; exact List.getElem_mem htl
          have htk : zs.take (t + 1) = zs.take t ++ [x] := by rw [List.take_succ_eq_append_getElem htl, hx]; simp [htl]
          have hnx : x ∉ zs.take t := by
            intro hm'
            have := HND.out
            rw [← List.take_append_drop (t + 1) zs, htk, List.append_assoc, List.nodup_append] at this
            exact this.2.2 x hm' x (by simp) rfl
          obtain ⟨qx, hfx⟩ := Option.isSome_iff_exists.1 (HFD.out x hxz)
          obtain ⟨_, _, hx0, hx1⟩ := hok1'.out.waits _ (SS.find_some hfx)
          simp only at hx0 hx1
          have hdx : dz j (zs.take t) j x = false := dz_not hnx
          have hst : dz j (zs.take (t + 1)) = addD (dz j (zs.take t)) j x := by rw [htk, dz_snoc]
          obtain ⟨y0, y1⟩ := HLr.out.baker hj (show (s1.partF (dz j (zs.take t)) (·.slash j f p)).is j = true from Hi1.out)
          have hgot := SS.partF_got (WP.slash_keeps j f p) hfx hdx
          have hlk := HLr.out.look hj (show (s1.partF (dz j (zs.take t)) (·.slash j f p)).is j = true from Hi1.out) x (WalkArith.wf_i64 (by omega)) wr rfl
          rw [show (s1.partF (dz j (zs.take t)) (·.slash j f p)).find j x = some qx from hgot] at hlk
          simp only [Option.isSome_some, if_true] at hlk
          obtain ⟨hpa, rpa, rma⟩ := HLr.out.poo j (some x) qx hj hgot
          have u1 := HB1.out (dz j (zs.take t))
          have Ha := Lib.hid ha
          subst ha
          by_cases hlx : x < f
          · obtain ⟨e1, e2⟩ := slash_miss (p := p) hok1'.out hfx hdx hlx
            rw [← hst] at e1 e2
            have E1 := Lib.hid e1; have E2 := Lib.hid e2
            generalize zs.length = nz at *
            clear hx hxz htk hnx hfx hdx hst hgot hlk hpa rpa rma e1 e2 u1 y0 y1
            go_wp2_with fail
            go_roundw
            case rel => exact ⟨t + 1, by omega, by go_num, by rw [E2.out], by rw [E1.out]; exact HLr.out, HKr.out, HRr.out⟩
            case measure => simp [intOf]; omega
          · obtain ⟨e2, e4⟩ := slash_hit (p := p) hok1'.out hfx hdx hlx
            have HPSx := Lib.hid (HPS.out _ _ _ qx wr HKr.out.errs hpa)
            have HTN := Lib.hid (fun w3 (hp : PoolP (L.pb j (some x)) (L.pm j (some x)) m (qx.slashOp p).2.2 wr w3) =>
              (HLr.out.turn (k := j) (oc := some x) hj hgot hp (Nat.le_refl _) (s' := s1.partF (dz j (zs.take (t + 1))) (·.slash j f p)) (HOKP.out _) (fun _ _ => rfl) (fun j' oc' hj' => by
                have := SS.partF_get (done := dz j (zs.take t)) (WP.slash_keeps j f p) hfx j' oc' hj'
                rw [hst, ← e4]; exact this)))
            have HKN := Lib.hid (fun w3 (hp : PoolP (L.pb j (some x)) (L.pm j (some x)) m (qx.slashOp p).2.2 wr w3) =>
              HKr.out.step hp.1 (fun b hb => by rcases hb with rfl | rfl; exact HFF.out _ (by rw [rpa]; simp); exact HFF.out _ (by rw [rma]; simp)) HFE.out)
            have HRN := Lib.hid (fun w3 (hp : PoolP (L.pb j (some x)) (L.pm j (some x)) m (qx.slashOp p).2.2 wr w3) =>
              HRr.out.keep hp.1 (fun a ha => by
                have hrn := HR.out _ (HNW.out a ha)
                rintro (e | e)
                · rw [← e, hrn] at rpa; cases rpa
                · rw [← e, hrn] at rma; cases rma))
            have u2 := HB1.out (dz j (zs.take (t + 1)))
            rw [hst, e2] at u2
            rw [← hst] at e2
            have E2 := Lib.hid e2
            have lb2 := (QS.slash_total (hok1'.out.findOk hfx) p).2.1
            generalize s1.sumF (dz j (zs.take t)) (·.loses j f p) = T1 at *
            generalize (qx.slashOp p).1 = T2 at *
            generalize zs.length = nz at *
            have u3 : T0 + T1 ≤ 9223372036854775807 := by omega
            have u4 : 0 ≤ T0 + T1 := by omega
            have u5 : T0 + T1 + T2 ≤ 9223372036854775807 := by omega
            have u6 : 0 ≤ T0 + T1 + T2 := by omega
            clear hx hxz htk hnx hfx hdx hst hgot hpa rpa rma e2 e4 u1 u2
            go_wp2_with (go_at_call 166; refine HPSx.out.mono ?_; rintro e w3 ⟨rfl, hp3⟩; have HT3 := Lib.hid (HTN.out w3 hp3); have HK3 := Lib.hid (HKN.out w3 hp3); have HR3 := Lib.hid (HRN.out w3 hp3); clear hp3)
            go_roundw
            case rel => exact ⟨t + 1, by omega, by go_num, by rw [E2.out, Int.add_assoc], HT3.out, HK3.out, HR3.out⟩
            case measure => simp [intOf]; omega
        · obtain ⟨z1, z2⟩ := slash_end (f := f) (p := p) HALL.out
          have hte : zs.take t = zs := List.take_of_length_le (by omega)
          have HZ2 := Lib.hid (show s1.sumF (dz j (zs.take t)) (·.loses j f p) = (s1.W.map (·.loses j f p)).sum by rw [hte]; exact z2)
          have HSP := Lib.hid (show StakesP sb F m ⟨s1.P, s1.W.map (·.slash j f p)⟩ w wr from ⟨HKr.out.keep, L, by have := HLr.out; rw [hte, z1] at this; exact this, fun b hb => .inl (HFF.out b hb), grownF_lt HFL.out HKr.out.keep.size⟩)
          clear z1 z2 hte
          generalize zs.length = nz at *
          go_wp2_with fail
          go_ret2
          rw [HE1.out]
          exact ⟨by rw [← HZ2.out]; rfl, HSP.out⟩
    · have E := Lib.hid (slash_bad (f := f) hq hc)
      have ec : ev A (q.slashOp p).2.1 = .iface 235 (.pointer (some (A (q.slashOp p).2.1))) := ev_some A hc
      have hsame := ((QS.slash_total (hL.ok.poolOk hq) p).2.2.1 hc).2
      have HT := Lib.hid (fun w1 (hp : PoolP (L.pb j none) (L.pm j none) m q w w1) => hL.turned hF hlt hj hg hp (Nat.le_refl m) hL.ok (fun _ _ => rfl) (fun j' oc' _ => ⟨by rintro ⟨rfl, rfl⟩; exact hg, fun _ => rfl⟩))
      rw [hsame] at HP
      clear hL hF hlt hE hFE hq hg hi hc hq1 g1 g2 hok1 hsame
      go_enter Tryz.func139, Tryz.ntmps139
      go_wp2_with (first
        | (go_at_call 78; refine HB.out.mono ?_; rintro e w' ⟨rfl, rfl⟩)
        | (go_at_call 166; refine HP.out.mono ?_; rintro e w1 ⟨rfl, hp1⟩; rw [ec]))
      go_ret2
      rw [E.out]
      exact ⟨by rw [ec]; rfl, HT.out _ hp1⟩
end Go.Proofs.YtajnfkmkombajabGreatDoor
