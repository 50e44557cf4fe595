/- Contract: the cycles in which something waits with a baker, rising. -/
import Derived.Test.YtajnfkmkombajacDoorStake8
import Derived.Test.YtajnfkmkombajacDoorShelf
import Derived.Sort.OwnSortedInts
set_option linter.unusedVariables false
set_option linter.unusedSimpArgs false
namespace Go.Proofs.YtajnfkmkombajacDoor
open Go.RowKit Go.Maps

/-- what was met so far: each key that is no longer to come, once -/
structure Met (D : DataW Unit) (left : Lit → Bool) (zs : List Int) : Prop where
  nodup : zs.Nodup
  mem : ∀ c : Int, c ∈ zs ↔ (Maps.has D (.int .i64 c) = true ∧ left (.int .i64 c) = false)
theorem Met.start (D : DataW Unit) : Met D (Maps.has D) [] := ⟨List.nodup_nil, fun c => ⟨fun h => (by cases h), fun ⟨h1, h2⟩ => by rw [h1] at h2; cases h2⟩⟩
theorem has_of_at {D : DataW Unit} {kl : Lit} {y : DataW Unit} (h : ∀ zd, D.atKey kl zd = y) : Maps.has D kl = true := by
  cases hc : Maps.has D kl with
  | true => rfl
  | false =>
    have h1 := h .nil; have h2 := h (.lit (.bool true))
    rw [atKey_of_not_has hc] at h1 h2
    rw [← h1] at h2; cases h2
theorem Met.step {D : DataW Unit} {left : Lit → Bool} {zs : List Int} (h : Met D left zs) {x : Int} (hl : left (.int .i64 x) = true) (hh : Maps.has D (.int .i64 x) = true) : Met D (fun z => left z && !z.sameKey (.int .i64 x)) (zs ++ [x]) := by
  refine ⟨?_, fun c => ?_⟩
  · rw [List.nodup_append]
    refine ⟨h.nodup, by simp, fun a ha b hb e => ?_⟩
    obtain rfl := List.mem_singleton.1 hb
    subst e
    have := ((h.mem a).1 ha).2
    rw [hl] at this; cases this
  · have e : (Lit.int .i64 c).sameKey (.int .i64 x) = (c == x) := by
      by_cases h : c = x
      · subst h; simp [Lit.sameKey]
      · simp [Lit.sameKey, h]
    rw [List.mem_append, List.mem_singleton, h.mem c, e]
    by_cases hx : c = x
    · subst hx; simp [hh]
    · simp [hx]

/-- a list of numbers of the call's own, however it lies -/
def KeysPost (s : SS) (k : Nat) (w : World) (e : Ending) (w' : World) : Prop :=
  ∃ ao cap zs, e = .returned (.slice ao zs.length cap) ∧ RdI .i64 w' ao zs.length cap zs ∧ zs.Nodup ∧ (∀ c ∈ zs, (s.find k c).isSome = true) ∧ (∀ x ∈ s.W, x.b = (k : Int) → x.c ∈ zs) ∧ (∀ a, ao = some a → w.heap.size ≤ a.block) ∧ Below w.heap.size w w'

theorem keys_all {s : SS} {L : Lay} {k : Nat} (hs : s.Ok) {D : DataW Unit} (hD : ∀ c : Int, D.atKey (.int .i64 c) .nil = waitD L k c (s.find k c)) {left : Lit → Bool} {zs : List Int} (h : Met D left zs) (hl : ∀ kl, left kl = false) :
    ∀ x ∈ s.W, x.b = (k : Int) → x.c ∈ zs := by
  intro x hx' he
  refine (h.mem x.c).2 ⟨?_, hl _⟩
  cases hc : Maps.has D (.int .i64 x.c) with
  | true => rfl
  | false =>
    have h1 := hD x.c
    have hf := SS.find_mem hs.apart hx'
    rw [he] at hf
    rw [atKey_of_not_has hc, hf] at h1
    simp [waitD] at h1
theorem sorted_keys (zs : List Int) : (zs.mergeSort fun x y => decide (x ≤ y)).length = zs.length ∧ (zs.Nodup → (zs.mergeSort fun x y => decide (x ≤ y)).Nodup) ∧ ∀ c, c ∈ (zs.mergeSort fun x y => decide (x ≤ y)) ↔ c ∈ zs := by
  have hp := List.mergeSort_perm zs (fun x y => decide (x ≤ y))
  exact ⟨hp.length_eq, fun h => hp.nodup_iff.2 h, fun c => hp.mem_iff⟩

set_option maxRecDepth 8000 in
set_option maxHeartbeats 2000000 in
theorem stake_cycles (sb m : Nat) (F : Nat → Prop) (L : Lay) (s : SS) (k : Nat) (w : World) (h : StakesL sb L m s w) (hk : k < 3) (hi : s.is k = true) (hm : m ≤ 1000000) :
    Calls Tryd.prog 33 #[.pointer (some ⟨L.bb k, 0, none⟩)] w (KeysPost s k w) := by
  obtain ⟨x0, x1⟩ := h.baker hk hi
  obtain ⟨rw0, D, hD0, hD1⟩ := h.wai k hk hi
  obtain ⟨i0, hi0, hz0, hz1, hz2⟩ := info_parts (show (Tryd.prog.info? 3).map (fun i => (i.zero, i.size, i.bytes)) = some (some (.int .i64 0), 1, 8) by kernel_rfl)
  have HD0 := Lib.hid hD0; have HD1 := Lib.hid hD1
  have hok := Lib.hid h.ok
  have hwm := hD0.lt
  have hsz := Lib.hid hD0.size_le
  clear h rw0 hD0 hD1 hi
  go_enter Tryd.func33, Tryd.ntmps33
  go_wp2_with (at_range; refine wpList_range_own _ rfl _ 53 rfl 3 51 keyI Tryd.underlying53 blkElem (L.wm k) m D rfl HD0.out ?_; intro w0 hrg0 hg0 hs0; have HRG0 := Lib.hid hrg0; have HB0 := Lib.hid ((Below.refl w.heap.size w).grown hg0 (Nat.le_refl _) (fun b hb => by cases hb)); have HS0 := Lib.hid hs0; clear hrg0 hg0 hs0)
  (try go_frame)
  go_loopw [3] (fun v wx => ∃ left cnt zs, wx.ranges Tryd.prog 3 blkElem (L.wm k) w.heap.size m D left cnt ∧ wx.ownsRow (w.heap.size + 1) 3 1 v zs.length (zs.map (Value.int .i64)) ∧ Met D left zs ∧ (∀ c ∈ zs, (s.find k c).isSome = true) ∧ zs.length + cnt ≤ m ∧ Below w.heap.size w wx ∧ w.heap.size < wx.heap.size) (fun _ wx => wx.rangeLeft (L.wm k) w.heap.size)
  case atStart => exact ⟨_, _, [], HRG0.out, World.ownsRow_nil _ _ _ _, Met.start D, (fun c hc => by cases hc), by have := hsz.out; simp; exact this, HB0.out, by rw [HS0.out]; omega⟩
  case round =>
    obtain ⟨left, cnt, zs, hrg, hown, hmet, hall, hc, hb, hlt⟩ := hrel
    have HRG := Lib.hid hrg; have HO := Lib.hid hown; have HM := Lib.hid hmet; have HB := Lib.hid hb; have HAL := Lib.hid hall
    clear hrg hown hmet hb hall
    go_wp2_with (at_next; refine wpList_next_ranges _ rfl _ rfl 3 keyI blkElem (Value.int .i64) blkV keyInt_inv blkV_inv (L.wm k) w.heap.size m D left cnt rfl HRG.out ?_ ?_)
    · intro _ hl0
      have HA := Lib.hid (keys_all hok.out HD1.out HM.out hl0)
      obtain ⟨sl, sn, sm⟩ := sorted_keys zs
      rcases HO.out.2 with ⟨hv, hz⟩ | ⟨g, cap, cur, hv, hbase, hgb, h1, h2', h3, h4⟩
      · subst hv
        have hz0 : zs = [] := List.eq_nil_of_length_eq_zero hz
        have Hz := Lib.hid hz0
        clear hz hz0 sl sn sm hl0
        go_wp2_with (go_at_call 55; refine (Tryd.slices_Sort_int_none _ _ _).mono ?_; rintro e w2 ⟨rfl, rfl⟩)
        go_ret
        exact ⟨none, 0, [], rfl, RdI.nil _ _, List.nodup_nil, (fun c hc => by cases hc), (fun x hx he => by have := HA.out x hx he; rw [Hz.out] at this; cases this), (fun a h => by cases h), HB.out⟩
      · subst hv
        have hgl := lt_of_block hgb
        have HSO := Lib.hid (Tryd.slices_Sort_int g 0 cap zs wr (holds_of_blockI hgb (by simpa using h4)) hgl (by omega))
        have HRS := Lib.hid (fun n os => ownsRow_sortedI (n := n) (os := os) (ts := zs.mergeSort fun x y => decide (x ≤ y)) sl hbase hgb h1 h2' h3)
        have HSL := Lib.hid sl; have HSN := Lib.hid (sn HM.out.nodup); have HSM := Lib.hid sm
        have Hbs := Lib.hid hbase
        generalize hts : (zs.mergeSort fun x y => decide (x ≤ y)) = ts at *
        generalize hln : zs.length = nn at *
        have Hln := Lib.hid hln
        clear hgb h1 h2' h3 h4 sl sn sm hl0 hbase hts hln
        go_wp2_with (go_at_call 55; refine HSO.out.mono ?_; rintro e w2 ⟨rfl, n2, os2, rfl⟩)
        go_ret
        refine ⟨some ⟨g, 0, none⟩, cap, ts, by rw [HSL.out]; rfl, by have := RdI.of_own (HRS.out n2 os2); rw [← HSL.out] at this; exact this, HSN.out, fun c hc => HAL.out c ((HSM.out c).1 hc), fun x hx he => (HSM.out _).2 (HA.out x hx he), (fun a h => by cases h; exact Nat.le_of_succ_le Hbs.out), ?_⟩
        exact HB.out.grown (grownBy_sortedI _) HB.out.size (fun b hb => by cases hb; have := Hbs.out; omega)
    · intro x cb kl yd yp w1 cnt1 hkey hlk hv hat hrg1 hlt1 hg1 hs1 hen
      obtain ⟨rfl, hxw⟩ := keyInt_is hkey
      have HM1 := Lib.hid (HM.out.step hlk (has_of_at hat))
      obtain ⟨qx, hfx, _⟩ := wait_entry HD1.out hv hat
      have HAL1 := Lib.hid (show ∀ c ∈ zs ++ [x], (s.find k c).isSome = true from fun c hc => by
        rcases List.mem_append.1 hc with hc | hc
        · exact HAL.out c hc
        · obtain rfl := List.mem_singleton.1 hc; rw [hfx]; rfl)
      have HB1 := Lib.hid (HB.out.grown hg1 HB.out.size (fun b hb => by cases hb; exact Nat.le_refl _))
      have HO1 := Lib.hid (HO.out.kept hg1 (.inr fun e => row_ne_iter HO.out HRG.out e.symm))
      have hsl : w1.heap.size = wr.heap.size := hs1
      have HSL := Lib.hid hsl
      have HRG1 := Lib.hid hrg1
      have hen' : (Instr.entry (.pointer (some ⟨w.heap.size, 0, none⟩))).run Tryd.prog w1 = .ok (.tuple #[.int .i64 x, .pointer (some ⟨cb, 0, none⟩)]) w1 := hen
      clear hkey hlk hv hat hrg1 hg1 hs1 hen hsl hfx
      go_wp2_with (at_builtin; refine wpList_append_own _ rfl (.tmp 14) (.tmp 16) 61 rfl (w.heap.size + 1) 3 i0 (.int .i64 0) 1 8 Tryd.underlying61 hi0 hz0 hz1 hz2 rfl (by decide) u3 zs.length (zs.map (Value.int .i64)) rfl (HO1.out.alloc _) ⟨_, 0, none⟩ 1 1 [.int .i64 x] rfl rfl (cell_one_at _ _ _ _ (by simp)) (ints_oneCell _ [_]) (by unfold maxLen; omega) (by omega) (by have := HSL.out; simp; omega) ?_)
      intro v' w2 ho2 hg2 _
      have HB2 := Lib.hid (Below.grown (HB1.out.alloc HB1.out.size (.cells #[.int .i64 x] 3)) hg2 (by have := HSL.out; simp; omega) (fun j hj => Nat.le_of_succ_le (HO1.out.lt j hj).1))
      have HR2 := Lib.hid ((HRG1.out.alloc (.cells #[.int .i64 x] 3)).kept hg2 (row_ne_low HO1.out (by omega)) (row_ne_low HO1.out (by omega)))
      have HO2 := Lib.hid (show w2.ownsRow (w.heap.size + 1) 3 1 v' (zs ++ [x]).length ((zs ++ [x]).map (Value.int .i64)) by rw [List.map_append, List.length_append]; exact ho2)
      have hs2 := hg2.size
      have hz2' : w.heap.size < w2.heap.size := by have := HSL.out; simp at hs2; omega
      clear ho2 hg2 hs2
      go_wp2_with fail
      go_roundw
      case rel => exact ⟨_, cnt1, zs ++ [x], HR2.out, HO2.out, HM1.out, HAL1.out, by simp; omega, HB2.out, hz2'⟩
      case measure => rw [HR2.out.left_eq, HRG.out.left_eq]; omega
end Go.Proofs.YtajnfkmkombajacDoor
