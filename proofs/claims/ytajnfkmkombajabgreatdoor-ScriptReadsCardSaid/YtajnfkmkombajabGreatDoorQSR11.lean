/-
  The walk of stake.Free. (The three bakers' arms are printed by a program of mine, gen_free.)
-/
import Derived.Test.YtajnfkmkombajabGreatDoorQSR10
set_option linter.unusedVariables false
set_option linter.unusedSimpArgs false
set_option linter.unusedVariables false
namespace Go.Proofs.YtajnfkmkombajabGreatDoor
open Go.RowKit Go.Maps

theorem ranges_keep {H : Type} {P : Program} {k : TypeId} {R : Value → Option (DataW H × List MemPlace)} {w w' : World} {b r n cnt : Nat} {D : DataW H} {left : Lit → Bool} {F : Nat → Prop} (h : w.ranges P k R b r n D left cnt) (k' : Keep F w w') (hb : ¬ F b) (hr : ¬ F r) : w'.ranges P k R b r n D left cnt := by
  obtain ⟨es, clock, since, seen, c0, h1, h2, h3, h4, h5, h6⟩ := h
  exact ⟨es, clock, since, seen, c0, k'.heap h1 hb, h2, h3, h4, k'.heap h5 hr, h6⟩

/-- blocks of F alone have turned, and new ones; the errors stand -/
structure FK (A : Nat → Addr) (S : List Nat) (F : Nat → Prop) (w wr : World) : Prop where
  keep : Keep F w wr
  errs : Errs A S wr
theorem FK.grown {A : Nat → Addr} {S : List Nat} {F : Nat → Prop} {w wr w' : World} {row : Option Nat} (h : FK A S F w wr) (hg : wr.grownBy w' row) (hr : ∀ b, row = some b → w.heap.size ≤ b) (hE : ∀ c ∈ S, gE c < w.heap.size) : FK A S F w w' :=
  ⟨h.keep.grown hg (fun k hk => .inr (hr k hk)), h.errs.keep ((Keep.refl (fun b => row = some b) wr).grown hg (fun k hk => .inl hk)) (fun c hc e => by have := hr _ e; have := hE c hc; omega)⟩
theorem FK.step {A : Nat → Addr} {S : List Nat} {F G : Nat → Prop} {w wr w' : World} (h : FK A S F w wr) (k : Keep G wr w') (hG : ∀ b, G b → F b) (hE : ∀ c ∈ S, ¬ F (gE c)) : FK A S F w w' :=
  ⟨h.keep.trans (k.mono hG), h.errs.keep k (fun c hc e => hE c hc (hG _ e))⟩

theorem WP.left_keeps (o c : Int) : ∀ x : WP, (x.left o c).b = x.b ∧ (x.left o c).c = x.c := fun x => WP.left_b o c x
/-- one more is done: nothing may be had of it yet -/
theorem free_stuck {s : SS} {o c : Int} {d : Int → Int → Bool} {k : Nat} {x : Int} {q : QS} (hs : s.Ok) (hf : s.find k x = some q) (hd : d k x = false) (hx : c ≤ x + 2) :
    s.partF (addD d k x) (·.left o c) = s.partF d (·.left o c) ∧ s.sumF (addD d k x) (·.gets o c) = s.sumF d (·.gets o c) ∧ s.anyF (addD d k x) (·.has o c) = s.anyF d (·.has o c) := by
  have hfree : (WP.mk k x q).free c = false := by unfold WP.free; simp; omega
  obtain ⟨h1, h2, h3⟩ := WP.stuck (o := o) hfree
  refine ⟨?_, by rw [SS.sumF_add hs hf hd, h2]; omega, by rw [SS.anyF_add hs hf, h3]; simp⟩
  unfold SS.partF
  congr 1
  refine List.map_congr_left fun y hy => ?_
  by_cases e : y.b = k ∧ y.c = x
  · have hy2 := SS.find_mem hs.apart hy
    rw [e.1, e.2, hf] at hy2
    have hyy : y = ⟨k, x, q⟩ := by
      obtain ⟨yb, yc, yq⟩ := y
      simp only at e hy2
      obtain ⟨rfl, rfl⟩ := e
      cases hy2; rfl
    rw [hyy]; simp only [h1]; split <;> split <;> rfl
  · rw [addD_other e]
theorem free_goes {s : SS} {o c : Int} {d : Int → Int → Bool} {k : Nat} {x : Int} {q : QS} (hs : s.Ok) (hf : s.find k x = some q) (hd : d k x = false) (hx : ¬ c ≤ x + 2) :
    s.sumF (addD d k x) (·.gets o c) = s.sumF d (·.gets o c) + (if (q.leaveOp o).2.1 = 0 then (q.leaveOp o).1 else 0) ∧ s.anyF (addD d k x) (·.has o c) = (s.anyF d (·.has o c) || ((q.leaveOp o).2.1 == 0)) ∧ ((WP.mk k x q).left o c).q = (q.leaveOp o).2.2 := by
  have hfree : (WP.mk k x q).free c = true := by unfold WP.free; simp; omega
  obtain ⟨h1, h2, h3⟩ := WP.goes (o := o) hfree
  exact ⟨by rw [SS.sumF_add hs hf hd, h2], by rw [SS.anyF_add hs hf, h3], h1⟩

set_option maxRecDepth 8000 in
set_option maxHeartbeats 4000000 in
theorem stake_Free_in (A : Nat → Addr) (S : List Nat) (sb m : Nat) (F : Nat → Prop) (L : Lay) (s : SS) (o c : Int) (w : World) (h : StakesL sb L m s w) (hF : ∀ b, L.role b ≠ .none → F b) (hlt : ∀ b, F b → b < w.heap.size) (hE : Errs A S w) (h2 : 2 ∈ S) (h4 : 4 ∈ S) (hFE : ∀ c ∈ S, ¬ F (gE c))
    (hW : s.W.length ≤ 8000) (hm : m + s.W.length < maxLen) (hcy : cycleC c = 0) (ho : ownB o = true) :
    Calls Tryz.prog 89 #[.pointer (some ⟨sb, 0, none⟩), .int .i64 o, .int .i64 c] w fun e w' => e = .returned (.tuple #[.int .i64 (s.freeOp o c).1, ev A (s.freeOp o c).2.1]) ∧ StakesP sb F (m + s.W.length) (s.freeOp o c).2.2 w w' := by
  have c0 := h.cell (k := 0) (by omega)
  have c1 := h.cell (k := 1) (by omega)
  have c2 := h.cell (k := 2) (by omega)
  obtain ⟨p0, hp0⟩ : ∃ p, p = bptr s L 0 := ⟨_, rfl⟩
  obtain ⟨p1, hp1⟩ : ∃ p, p = bptr s L 1 := ⟨_, rfl⟩
  obtain ⟨p2, hp2⟩ : ∃ p, p = bptr s L 2 := ⟨_, rfl⟩
  rw [← hp0] at c0; rw [← hp1] at c1; rw [← hp2] at c2
  have P0 := Lib.hid hp0; have P1 := Lib.hid hp1; have P2 := Lib.hid hp2
  clear hp0 hp1 hp2
  have g4 : w.cell? ⟨3, 0, none⟩ = some (.iface 235 (.pointer (some (A 4)))) := hE.cell 4 h4
  have HC := Lib.hid (stake_cycleError A S c w hE h2)
  have ec : ev A (cycleC c) = .nilIface := by rw [hcy]; rfl
  obtain ⟨o0, o6⟩ := ownB_iff.1 ho
  obtain ⟨cy0, cy1⟩ := cycleC_zero.1 hcy
  have hok := Lib.hid h.ok
  have HR := Lib.hid (show ∀ b, w.heap.size ≤ b → L.role b = .none from fun b hb => role_new hF hlt hb)
  have HEL := Lib.hid (fun c hc => hE.lt (c := c) hc)
  have HFE := Lib.hid hFE; have HFF := Lib.hid hF; have HFL := Lib.hid hlt
  have HFO := Lib.hid (SS.freeOp_of (s := s) hcy ho)
  have HB := Lib.hid (fun d => SS.sumF_bd (done := d) (g := fun x => x.gets o c) h.ok (fun x hx => WP.gets_bd o c x hx))
  have HN := Lib.hid (show ∀ d, 0 ≤ s.sumF d (fun _ => 1) ∧ s.sumF d (fun _ => 1) ≤ (s.W.length : Int) from fun d => by
    unfold SS.sumF
    have : ∀ l : List WP, 0 ≤ (l.map fun x => if d x.b x.c then (1 : Int) else 0).sum ∧ (l.map fun x => if d x.b x.c then (1 : Int) else 0).sum ≤ (l.length : Int) := by
      intro l
      induction l with
      | nil => simp
      | cons a r ih => simp only [List.map_cons, List.sum_cons, List.length_cons]; split <;> omega
    exact this s.W)
  have HOKP := Lib.hid (fun d => h.ok.partF (done := d) (WP.left_keeps o c) (WP.left_ok o c))
  have HPL := Lib.hid (fun b mb n q wx hE hp hn => pool_Leave A S b mb n q o wx hE h2 h4 hp hn)
  have HM := Lib.hid hm
  have hL0 : StakesL sb L (m + 0) (s.partF (dk 0) (·.left o c)) w := by rw [SS.partF_none (dk_zero h.ok)]; exact h
  have H0 := Lib.hid hL0
  have Hs0 := Lib.hid (show s.sumF (dk 0) (·.gets o c) = 0 from SS.sumF_none (dk_zero h.ok))
  have Hn0 := Lib.hid (show s.sumF (dk 0) (fun _ => 1) = 0 from SS.sumF_none (dk_zero h.ok))
  have Ha0 := Lib.hid (show s.anyF (dk 0) (fun x => x.has o c) = false from SS.anyF_none (dk_zero h.ok))
  have HF0 := Lib.hid (show FK A S F w w from ⟨Keep.refl _ _, hE⟩)
  clear h hF hlt hE hFE hm hcy ho hL0
  go_enter Tryz.func89, Tryz.ntmps89
  go_wp2_with (go_at_call 105; refine HC.out.mono ?_; rintro e w' ⟨rfl, rfl⟩; rw [ec])
  go_loopw [9, 10, 34] (fun su fo i wr => ∃ k n : Nat, k ≤ 3 ∧ i = .int .i64 k ∧ su = .int .i64 (s.sumF (dk k) (·.gets o c)) ∧ fo = .bool (s.anyF (dk k) (·.has o c)) ∧ (n : Int) = s.sumF (dk k) (fun _ => 1) ∧ StakesL sb L (m + n) (s.partF (dk k) (·.left o c)) wr ∧ FK A S F w wr) (fun _ _ i _ => 3 - (intOf i).toNat)
  case atStart => exact ⟨0, 0, by omega, rfl, by rw [Hs0.out], by rw [Ha0.out], by rw [Hn0.out]; rfl, H0.out, HF0.out⟩
  case round =>
    obtain ⟨k, n, hk, rfl, rfl, rfl, hn, hL, hfk⟩ := hrel
    rename World => wo
    have HL := Lib.hid hL; have HK := Lib.hid hfk; have Hn := Lib.hid hn
    clear hL hfk c0 c1 c2 hn
    by_cases hlt3 : k < 3
    · have tb := HB.out (dk k)
      have tt : s.sumF (dk k) (·.gets o c) ≤ 9223372036854775807 := by omega
      cases hi : s.is (k : Int) with
      | false =>
        have HSK := Lib.hid (show s.sumF (dk (k + 1)) (·.gets o c) = s.sumF (dk k) (·.gets o c) from (SS.sumF_congr (dk_skip hok.out hi)).symm)
        have HSN := Lib.hid (show s.sumF (dk (k + 1)) (fun _ => 1) = s.sumF (dk k) (fun _ => 1) from (SS.sumF_congr (dk_skip hok.out hi)).symm)
        have HSA := Lib.hid (show s.anyF (dk (k + 1)) (·.has o c) = s.anyF (dk k) (·.has o c) from (SS.anyF_congr (dk_skip hok.out hi)).symm)
        have HSP := Lib.hid (show s.partF (dk (k + 1)) (·.left o c) = s.partF (dk k) (·.left o c) from (SS.partF_congr (dk_skip hok.out hi)).symm)
        have E := Lib.hid (bptr_no (L := L) hi)
        generalize s.sumF (dk k) (·.gets o c) = T0 at *
        generalize s.anyF (dk k) (·.has o c) = B0 at *
        clear hi
        have hk3 : k = 0 ∨ k = 1 ∨ k = 2 := by omega
        rcases hk3 with rfl | rfl | rfl
        · obtain rfl : p0 = .pointer none := P0.out.trans E.out
          have ix : ∀ wx, (Instr.index 80 (.agg #[.pointer none, p1, p2]) (.int .i64 0)).run Tryz.prog wx = .ok (.pointer none) wx := fun wx => idx3 (.pointer none) p1 p2 0 _ rfl wx
          go_wp2_with fail
          go_roundw
          case rel => exact ⟨0 + 1, n, by omega, rfl, by rw [HSK.out], by rw [HSA.out], by rw [HSN.out]; exact Hn.out, by rw [HSP.out]; exact HL.out, HK.out⟩
          case measure => simp [intOf]
        · obtain rfl : p1 = .pointer none := P1.out.trans E.out
          have ix : ∀ wx, (Instr.index 80 (.agg #[p0, .pointer none, p2]) (.int .i64 1)).run Tryz.prog wx = .ok (.pointer none) wx := fun wx => idx3 p0 (.pointer none) p2 1 _ rfl wx
          go_wp2_with fail
          go_roundw
          case rel => exact ⟨1 + 1, n, by omega, rfl, by rw [HSK.out], by rw [HSA.out], by rw [HSN.out]; exact Hn.out, by rw [HSP.out]; exact HL.out, HK.out⟩
          case measure => simp [intOf]
        · obtain rfl : p2 = .pointer none := P2.out.trans E.out
          have ix : ∀ wx, (Instr.index 80 (.agg #[p0, p1, .pointer none]) (.int .i64 2)).run Tryz.prog wx = .ok (.pointer none) wx := fun wx => idx3 p0 p1 (.pointer none) 2 _ rfl wx
          go_wp2_with fail
          go_roundw
          case rel => exact ⟨2 + 1, n, by omega, rfl, by rw [HSK.out], by rw [HSA.out], by rw [HSN.out]; exact Hn.out, by rw [HSP.out]; exact HL.out, HK.out⟩
          case measure => simp [intOf]
      | true =>
        have E := Lib.hid (bptr_yes (L := L) hi)
        obtain ⟨x0, x1⟩ := HL.out.baker hlt3 hi
        obtain ⟨rw0, D, hD0, hD1'⟩ := HL.out.wai k hlt3 hi
        have hD1 : ∀ c' : Int, D.atKey (.int .i64 c') .nil = waitD L k c' (s.find k c') := fun c' => by
          rw [hD1' c', SS.find_partF (WP.left_keeps o c)]
          unfold waitD
          cases s.find k c' <;> rfl
        have RW := Lib.hid rw0
        have HS1 := Lib.hid (show s.sumF (dn k (Maps.has D)) (·.gets o c) = s.sumF (dk k) (·.gets o c) from SS.sumF_congr (wait_start hok.out hD1))
        have HS2 := Lib.hid (show s.sumF (dn k (Maps.has D)) (fun _ => 1) = s.sumF (dk k) (fun _ => 1) from SS.sumF_congr (wait_start hok.out hD1))
        have HS3 := Lib.hid (show s.anyF (dn k (Maps.has D)) (·.has o c) = s.anyF (dk k) (·.has o c) from SS.anyF_congr (wait_start hok.out hD1))
        have HS4 := Lib.hid (show s.partF (dn k (Maps.has D)) (·.left o c) = s.partF (dk k) (·.left o c) from SS.partF_congr (wait_start hok.out hD1))
        have HD0 := Lib.hid hD0; have HD1 := Lib.hid hD1
        have hl0 : w.heap.size ≤ wo.heap.size := HK.out.keep.size
        have hwm := hD0.lt
        clear hi hD0 hD1 hD1' rw0 tb
        generalize s.sumF (dk k) (·.gets o c) = T0 at *
        generalize s.anyF (dk k) (·.has o c) = B0 at *
        have hk3 : k = 0 ∨ k = 1 ∨ k = 2 := by omega
        rcases hk3 with rfl | rfl | rfl
        · obtain rfl : p0 = .pointer (some ⟨L.bb 0, 0, none⟩) := P0.out.trans E.out
          have ix : ∀ wx, (Instr.index 80 (.agg #[.pointer (some ⟨L.bb 0, 0, none⟩), p1, p2]) (.int .i64 0)).run Tryz.prog wx = .ok (.pointer (some ⟨L.bb 0, 0, none⟩)) wx := fun wx => idx3 (.pointer (some ⟨L.bb 0, 0, none⟩)) p1 p2 0 _ rfl wx
          go_wp2_with (at_range; refine wpList_range_own _ rfl _ 91 rfl 3 89 keyI Tryz.underlying91 blkElem (L.wm 0) (m + n) D rfl HD0.out ?_; intro w0 hrg0 hg0 hs0; have HRG0 := Lib.hid hrg0; have HL0 := Lib.hid (HL.out.grown hg0 (fun b hb => by cases hb)); have HK0 := Lib.hid (HK.out.grown hg0 (fun b hb => by cases hb) HEL.out); clear hrg0 hg0)
          (try go_frame)
          go_loopw [9, 10] (fun su fo wx => ∃ left cnt n', wx.ranges Tryz.prog 3 blkElem (L.wm 0) wo.heap.size (m + n) D left cnt ∧ su = .int .i64 (s.sumF (dn 0 left) (·.gets o c)) ∧ fo = .bool (s.anyF (dn 0 left) (·.has o c)) ∧ ((n' : Nat) : Int) = s.sumF (dn 0 left) (fun _ => 1) ∧ StakesL sb L (m + n') (s.partF (dn 0 left) (·.left o c)) wx ∧ FK A S F w wx) (fun _ _ wx => wx.rangeLeft (L.wm 0) wo.heap.size)
          case atStart => exact ⟨_, _, n, HRG0.out, by rw [HS1.out], by rw [HS3.out], by rw [HS2.out]; exact Hn.out, by rw [HS4.out]; exact HL0.out, HK0.out⟩
          case round =>
            obtain ⟨left, cnt, n', hrg, rfl, rfl, hn', hL2, hk2⟩ := hrel
            have HRG := Lib.hid hrg; have HL2 := Lib.hid hL2; have HK2 := Lib.hid hk2; have Hn' := Lib.hid hn'
            clear hrg hL2 hk2 hs0 hn'
            go_wp2_with (at_next; refine wpList_next_ranges _ rfl _ rfl 3 keyI blkElem (Value.int .i64) blkV keyInt_inv blkV_inv (L.wm 0) wo.heap.size (m + n) D left cnt rfl HRG.out ?_ ?_)
            · intro _ hl0
              have HE := Lib.hid (dn_end (k := 0) hl0)
              go_wp2_with fail
              go_roundw
              case rel => exact ⟨0 + 1, n', by omega, rfl, by rw [HE.out], by rw [HE.out], by rw [Hn'.out, HE.out], by have := HL2.out; rw [HE.out] at this; exact this, HK2.out⟩
              case measure => simp [intOf]
            · intro x cb kl yd yp w1 cnt1 hkey hlk hv hat hrg1 hlt1 hg1 hs1 hen
              obtain ⟨rfl, hxw⟩ := keyInt_is hkey
              obtain ⟨qx, hfx, rfl⟩ := wait_entry HD1.out hv hat
              obtain ⟨_, _, hx0, hx1⟩ := hok.out.waits _ (SS.find_some hfx)
              simp only at hx0 hx1
              have hdx := dn_left (k := 0) hlk
              have HL3 := Lib.hid (HL2.out.grown hg1 (fun b hb => by cases hb; exact HR.out _ HK.out.keep.size))
              have HK3 := Lib.hid (HK2.out.grown hg1 (fun b hb => by cases hb; exact HK.out.keep.size) HEL.out)
              have hst := dn_step 0 left x
              have hn2 : s.sumF (dn 0 fun z => left z && !z.sameKey (.int .i64 x)) (fun _ => 1) = ((n' + 1 : Nat) : Int) := by rw [hst, SS.sumF_add hok.out hfx hdx, ← Hn'.out]; rfl
              have HN2 := Lib.hid hn2
              have hnm : m + n' + 1 ≤ m + s.W.length := by have := HN.out (dn 0 fun z => left z && !z.sameKey (.int .i64 x)); rw [hn2] at this; omega
              have HRG1 := Lib.hid hrg1
              have hen' : (Instr.entry (.pointer (some ⟨wo.heap.size, 0, none⟩))).run Tryz.prog w1 = .ok (.tuple #[.int .i64 x, .pointer (some ⟨L.pb 0 (some x), 0, none⟩)]) w1 := hen
              have u1 := HB.out (dn 0 left)
              by_cases hfr : c ≤ x + 2
              · obtain ⟨e1, e2, e3⟩ := free_stuck (o := o) hok.out hfx hdx hfr
                rw [← hst] at e1 e2 e3
                have E1 := Lib.hid e1; have E2 := Lib.hid e2; have E3 := Lib.hid e3
                clear hkey hlk hv hat hrg1 hg1 hs1 hen hst hn2 hfx hdx e1 e2 e3 u1 hnm
                go_wp2_with fail
                go_roundw
                case rel => exact ⟨_, cnt1, n' + 1, HRG1.out, by rw [E2.out], by rw [E3.out], by rw [HN2.out], by rw [E1.out]; exact HL3.out.mono (by omega), HK3.out⟩
                case measure => rw [HRG1.out.left_eq, HRG.out.left_eq]; omega
              · obtain ⟨e2, e3, e4⟩ := free_goes (o := o) hok.out hfx hdx hfr
                have hgot := SS.partF_got (WP.left_keeps o c) hfx hdx
                obtain ⟨hpa, rpa, rma⟩ := HL3.out.poo 0 (some x) qx (by omega) hgot
                have HPLx := Lib.hid (HPL.out _ _ _ qx w1 HK3.out.errs hpa (by have := HM.out; omega))
                have HTN := Lib.hid (fun w2 (hp : PoolP (L.pb 0 (some x)) (L.pm 0 (some x)) (m + n' + 1) (qx.leaveOp o).2.2 w1 w2) =>
                  (HL3.out.turn (k := 0) (oc := some x) (by omega) hgot hp (Nat.le_succ _) (s' := s.partF (dn 0 fun z => left z && !z.sameKey (.int .i64 x)) (·.left o c)) (HOKP.out _) (fun _ _ => rfl) (fun j oc' hj => by
                    have := SS.partF_get (done := dn 0 left) (WP.left_keeps o c) hfx j oc' hj
                    rw [hst, ← e4]; exact this)))
                have HKN := Lib.hid (fun w2 (hp : PoolP (L.pb 0 (some x)) (L.pm 0 (some x)) (m + n' + 1) (qx.leaveOp o).2.2 w1 w2) =>
                  HK3.out.step hp.1 (fun b hb => by rcases hb with rfl | rfl; exact HFF.out _ (by rw [rpa]; simp); exact HFF.out _ (by rw [rma]; simp)) HFE.out)
                have HRN := Lib.hid (fun w2 (hp : PoolP (L.pb 0 (some x)) (L.pm 0 (some x)) (m + n' + 1) (qx.leaveOp o).2.2 w1 w2) =>
                  ranges_keep HRG1.out hp.1 (by rintro (e | e); (rw [← e, RW.out] at rpa; cases rpa); (rw [← e, RW.out] at rma; cases rma)) (by
                    have hrn := HR.out _ HK.out.keep.size
                    rintro (e | e)
                    · rw [← e, hrn] at rpa; cases rpa
                    · rw [← e, hrn] at rma; cases rma))
                have u2 := HB.out (dn 0 fun z => left z && !z.sameKey (.int .i64 x))
                rw [hst, e2] at u2
                rw [← hst] at e2 e3
                have E2 := Lib.hid e2; have E3 := Lib.hid e3
                have lb := QS.leave_pos (hok.out.findOk hfx) o
                clear hkey hlk hv hat hrg1 hg1 hs1 hen hst hn2 hfx hdx e2 e3 e4 hgot hpa rpa rma
                generalize s.sumF (dn 0 left) (·.gets o c) = T1 at *
                generalize s.anyF (dn 0 left) (·.has o c) = B1 at *
                by_cases hcd : (qx.leaveOp o).2.1 = 0
                · have ecd : ev A (qx.leaveOp o).2.1 = .nilIface := by rw [hcd]; rfl
                  rw [hcd] at E2 E3
                  rw [if_pos hcd] at u2
                  have Hcd := Lib.hid hcd; clear hcd
                  generalize (qx.leaveOp o).1 = T2 at *
                  have u3 : T1 + T2 ≤ 9223372036854775807 := by omega
                  have u4 : 0 ≤ T1 + T2 := by omega
                  clear u2
                  go_wp2_with (go_at_call 108; refine HPLx.out.mono ?_; rintro e w2 ⟨rfl, hp2⟩; rw [ecd]; have HT2 := Lib.hid (HTN.out w2 hp2); have HK4 := Lib.hid (HKN.out w2 hp2); have HR2 := Lib.hid (HRN.out w2 hp2); clear hp2)
                  go_roundw
                  case rel => exact ⟨_, cnt1, n' + 1, HR2.out, by rw [E2.out]; rfl, by rw [E3.out]; simp, by rw [HN2.out], HT2.out, HK4.out⟩
                  case measure => rw [HR2.out.left_eq, HRG.out.left_eq]; omega
                · have ecd : ev A (qx.leaveOp o).2.1 = .iface 235 (.pointer (some (A (qx.leaveOp o).2.1))) := ev_some A hcd
                  have E2' := Lib.hid (E2.out.trans (by rw [if_neg hcd, Int.add_zero]))
                  have E3' := Lib.hid (E3.out.trans (show (B1 || ((qx.leaveOp o).2.1 == 0)) = B1 by rw [beq_eq_false_iff_ne.2 hcd, Bool.or_false]))
                  clear E2 E3 u2 hcd
                  generalize (qx.leaveOp o).1 = T2 at *
                  go_wp2_with (go_at_call 108; refine HPLx.out.mono ?_; rintro e w2 ⟨rfl, hp2⟩; rw [ecd]; have HT2 := Lib.hid (HTN.out w2 hp2); have HK4 := Lib.hid (HKN.out w2 hp2); have HR2 := Lib.hid (HRN.out w2 hp2); clear hp2)
                  go_roundw
                  case rel => exact ⟨_, cnt1, n' + 1, HR2.out, by rw [E2'.out], by rw [E3'.out], by rw [HN2.out], HT2.out, HK4.out⟩
                  case measure => rw [HR2.out.left_eq, HRG.out.left_eq]; omega
        · obtain rfl : p1 = .pointer (some ⟨L.bb 1, 0, none⟩) := P1.out.trans E.out
          have ix : ∀ wx, (Instr.index 80 (.agg #[p0, .pointer (some ⟨L.bb 1, 0, none⟩), p2]) (.int .i64 1)).run Tryz.prog wx = .ok (.pointer (some ⟨L.bb 1, 0, none⟩)) wx := fun wx => idx3 p0 (.pointer (some ⟨L.bb 1, 0, none⟩)) p2 1 _ rfl wx
          go_wp2_with (at_range; refine wpList_range_own _ rfl _ 91 rfl 3 89 keyI Tryz.underlying91 blkElem (L.wm 1) (m + n) D rfl HD0.out ?_; intro w0 hrg0 hg0 hs0; have HRG0 := Lib.hid hrg0; have HL0 := Lib.hid (HL.out.grown hg0 (fun b hb => by cases hb)); have HK0 := Lib.hid (HK.out.grown hg0 (fun b hb => by cases hb) HEL.out); clear hrg0 hg0)
          (try go_frame)
          go_loopw [9, 10] (fun su fo wx => ∃ left cnt n', wx.ranges Tryz.prog 3 blkElem (L.wm 1) wo.heap.size (m + n) D left cnt ∧ su = .int .i64 (s.sumF (dn 1 left) (·.gets o c)) ∧ fo = .bool (s.anyF (dn 1 left) (·.has o c)) ∧ ((n' : Nat) : Int) = s.sumF (dn 1 left) (fun _ => 1) ∧ StakesL sb L (m + n') (s.partF (dn 1 left) (·.left o c)) wx ∧ FK A S F w wx) (fun _ _ wx => wx.rangeLeft (L.wm 1) wo.heap.size)
          case atStart => exact ⟨_, _, n, HRG0.out, by rw [HS1.out], by rw [HS3.out], by rw [HS2.out]; exact Hn.out, by rw [HS4.out]; exact HL0.out, HK0.out⟩
          case round =>
            obtain ⟨left, cnt, n', hrg, rfl, rfl, hn', hL2, hk2⟩ := hrel
            have HRG := Lib.hid hrg; have HL2 := Lib.hid hL2; have HK2 := Lib.hid hk2; have Hn' := Lib.hid hn'
            clear hrg hL2 hk2 hs0 hn'
            go_wp2_with (at_next; refine wpList_next_ranges _ rfl _ rfl 3 keyI blkElem (Value.int .i64) blkV keyInt_inv blkV_inv (L.wm 1) wo.heap.size (m + n) D left cnt rfl HRG.out ?_ ?_)
            · intro _ hl0
              have HE := Lib.hid (dn_end (k := 1) hl0)
              go_wp2_with fail
              go_roundw
              case rel => exact ⟨1 + 1, n', by omega, rfl, by rw [HE.out], by rw [HE.out], by rw [Hn'.out, HE.out], by have := HL2.out; rw [HE.out] at this; exact this, HK2.out⟩
              case measure => simp [intOf]
            · intro x cb kl yd yp w1 cnt1 hkey hlk hv hat hrg1 hlt1 hg1 hs1 hen
              obtain ⟨rfl, hxw⟩ := keyInt_is hkey
              obtain ⟨qx, hfx, rfl⟩ := wait_entry HD1.out hv hat
              obtain ⟨_, _, hx0, hx1⟩ := hok.out.waits _ (SS.find_some hfx)
              simp only at hx0 hx1
              have hdx := dn_left (k := 1) hlk
              have HL3 := Lib.hid (HL2.out.grown hg1 (fun b hb => by cases hb; exact HR.out _ HK.out.keep.size))
              have HK3 := Lib.hid (HK2.out.grown hg1 (fun b hb => by cases hb; exact HK.out.keep.size) HEL.out)
              have hst := dn_step 1 left x
              have hn2 : s.sumF (dn 1 fun z => left z && !z.sameKey (.int .i64 x)) (fun _ => 1) = ((n' + 1 : Nat) : Int) := by rw [hst, SS.sumF_add hok.out hfx hdx, ← Hn'.out]; rfl
              have HN2 := Lib.hid hn2
              have hnm : m + n' + 1 ≤ m + s.W.length := by have := HN.out (dn 1 fun z => left z && !z.sameKey (.int .i64 x)); rw [hn2] at this; omega
              have HRG1 := Lib.hid hrg1
              have hen' : (Instr.entry (.pointer (some ⟨wo.heap.size, 0, none⟩))).run Tryz.prog w1 = .ok (.tuple #[.int .i64 x, .pointer (some ⟨L.pb 1 (some x), 0, none⟩)]) w1 := hen
              have u1 := HB.out (dn 1 left)
              by_cases hfr : c ≤ x + 2
              · obtain ⟨e1, e2, e3⟩ := free_stuck (o := o) hok.out hfx hdx hfr
                rw [← hst] at e1 e2 e3
                have E1 := Lib.hid e1; have E2 := Lib.hid e2; have E3 := Lib.hid e3
                clear hkey hlk hv hat hrg1 hg1 hs1 hen hst hn2 hfx hdx e1 e2 e3 u1 hnm
                go_wp2_with fail
                go_roundw
                case rel => exact ⟨_, cnt1, n' + 1, HRG1.out, by rw [E2.out], by rw [E3.out], by rw [HN2.out], by rw [E1.out]; exact HL3.out.mono (by omega), HK3.out⟩
                case measure => rw [HRG1.out.left_eq, HRG.out.left_eq]; omega
              · obtain ⟨e2, e3, e4⟩ := free_goes (o := o) hok.out hfx hdx hfr
                have hgot := SS.partF_got (WP.left_keeps o c) hfx hdx
                obtain ⟨hpa, rpa, rma⟩ := HL3.out.poo 1 (some x) qx (by omega) hgot
                have HPLx := Lib.hid (HPL.out _ _ _ qx w1 HK3.out.errs hpa (by have := HM.out; omega))
                have HTN := Lib.hid (fun w2 (hp : PoolP (L.pb 1 (some x)) (L.pm 1 (some x)) (m + n' + 1) (qx.leaveOp o).2.2 w1 w2) =>
                  (HL3.out.turn (k := 1) (oc := some x) (by omega) hgot hp (Nat.le_succ _) (s' := s.partF (dn 1 fun z => left z && !z.sameKey (.int .i64 x)) (·.left o c)) (HOKP.out _) (fun _ _ => rfl) (fun j oc' hj => by
                    have := SS.partF_get (done := dn 1 left) (WP.left_keeps o c) hfx j oc' hj
                    rw [hst, ← e4]; exact this)))
                have HKN := Lib.hid (fun w2 (hp : PoolP (L.pb 1 (some x)) (L.pm 1 (some x)) (m + n' + 1) (qx.leaveOp o).2.2 w1 w2) =>
                  HK3.out.step hp.1 (fun b hb => by rcases hb with rfl | rfl; exact HFF.out _ (by rw [rpa]; simp); exact HFF.out _ (by rw [rma]; simp)) HFE.out)
                have HRN := Lib.hid (fun w2 (hp : PoolP (L.pb 1 (some x)) (L.pm 1 (some x)) (m + n' + 1) (qx.leaveOp o).2.2 w1 w2) =>
                  ranges_keep HRG1.out hp.1 (by rintro (e | e); (rw [← e, RW.out] at rpa; cases rpa); (rw [← e, RW.out] at rma; cases rma)) (by
                    have hrn := HR.out _ HK.out.keep.size
                    rintro (e | e)
                    · rw [← e, hrn] at rpa; cases rpa
                    · rw [← e, hrn] at rma; cases rma))
                have u2 := HB.out (dn 1 fun z => left z && !z.sameKey (.int .i64 x))
                rw [hst, e2] at u2
                rw [← hst] at e2 e3
                have E2 := Lib.hid e2; have E3 := Lib.hid e3
                have lb := QS.leave_pos (hok.out.findOk hfx) o
                clear hkey hlk hv hat hrg1 hg1 hs1 hen hst hn2 hfx hdx e2 e3 e4 hgot hpa rpa rma
                generalize s.sumF (dn 1 left) (·.gets o c) = T1 at *
                generalize s.anyF (dn 1 left) (·.has o c) = B1 at *
                by_cases hcd : (qx.leaveOp o).2.1 = 0
                · have ecd : ev A (qx.leaveOp o).2.1 = .nilIface := by rw [hcd]; rfl
                  rw [hcd] at E2 E3
                  rw [if_pos hcd] at u2
                  have Hcd := Lib.hid hcd; clear hcd
                  generalize (qx.leaveOp o).1 = T2 at *
                  have u3 : T1 + T2 ≤ 9223372036854775807 := by omega
                  have u4 : 0 ≤ T1 + T2 := by omega
                  clear u2
                  go_wp2_with (go_at_call 108; refine HPLx.out.mono ?_; rintro e w2 ⟨rfl, hp2⟩; rw [ecd]; have HT2 := Lib.hid (HTN.out w2 hp2); have HK4 := Lib.hid (HKN.out w2 hp2); have HR2 := Lib.hid (HRN.out w2 hp2); clear hp2)
                  go_roundw
                  case rel => exact ⟨_, cnt1, n' + 1, HR2.out, by rw [E2.out]; rfl, by rw [E3.out]; simp, by rw [HN2.out], HT2.out, HK4.out⟩
                  case measure => rw [HR2.out.left_eq, HRG.out.left_eq]; omega
                · have ecd : ev A (qx.leaveOp o).2.1 = .iface 235 (.pointer (some (A (qx.leaveOp o).2.1))) := ev_some A hcd
                  have E2' := Lib.hid (E2.out.trans (by rw [if_neg hcd, Int.add_zero]))
                  have E3' := Lib.hid (E3.out.trans (show (B1 || ((qx.leaveOp o).2.1 == 0)) = B1 by rw [beq_eq_false_iff_ne.2 hcd, Bool.or_false]))
                  clear E2 E3 u2 hcd
                  generalize (qx.leaveOp o).1 = T2 at *
                  go_wp2_with (go_at_call 108; refine HPLx.out.mono ?_; rintro e w2 ⟨rfl, hp2⟩; rw [ecd]; have HT2 := Lib.hid (HTN.out w2 hp2); have HK4 := Lib.hid (HKN.out w2 hp2); have HR2 := Lib.hid (HRN.out w2 hp2); clear hp2)
                  go_roundw
                  case rel => exact ⟨_, cnt1, n' + 1, HR2.out, by rw [E2'.out], by rw [E3'.out], by rw [HN2.out], HT2.out, HK4.out⟩
                  case measure => rw [HR2.out.left_eq, HRG.out.left_eq]; omega
        · obtain rfl : p2 = .pointer (some ⟨L.bb 2, 0, none⟩) := P2.out.trans E.out
          have ix : ∀ wx, (Instr.index 80 (.agg #[p0, p1, .pointer (some ⟨L.bb 2, 0, none⟩)]) (.int .i64 2)).run Tryz.prog wx = .ok (.pointer (some ⟨L.bb 2, 0, none⟩)) wx := fun wx => idx3 p0 p1 (.pointer (some ⟨L.bb 2, 0, none⟩)) 2 _ rfl wx
          go_wp2_with (at_range; refine wpList_range_own _ rfl _ 91 rfl 3 89 keyI Tryz.underlying91 blkElem (L.wm 2) (m + n) D rfl HD0.out ?_; intro w0 hrg0 hg0 hs0; have HRG0 := Lib.hid hrg0; have HL0 := Lib.hid (HL.out.grown hg0 (fun b hb => by cases hb)); have HK0 := Lib.hid (HK.out.grown hg0 (fun b hb => by cases hb) HEL.out); clear hrg0 hg0)
          (try go_frame)
          go_loopw [9, 10] (fun su fo wx => ∃ left cnt n', wx.ranges Tryz.prog 3 blkElem (L.wm 2) wo.heap.size (m + n) D left cnt ∧ su = .int .i64 (s.sumF (dn 2 left) (·.gets o c)) ∧ fo = .bool (s.anyF (dn 2 left) (·.has o c)) ∧ ((n' : Nat) : Int) = s.sumF (dn 2 left) (fun _ => 1) ∧ StakesL sb L (m + n') (s.partF (dn 2 left) (·.left o c)) wx ∧ FK A S F w wx) (fun _ _ wx => wx.rangeLeft (L.wm 2) wo.heap.size)
          case atStart => exact ⟨_, _, n, HRG0.out, by rw [HS1.out], by rw [HS3.out], by rw [HS2.out]; exact Hn.out, by rw [HS4.out]; exact HL0.out, HK0.out⟩
          case round =>
            obtain ⟨left, cnt, n', hrg, rfl, rfl, hn', hL2, hk2⟩ := hrel
            have HRG := Lib.hid hrg; have HL2 := Lib.hid hL2; have HK2 := Lib.hid hk2; have Hn' := Lib.hid hn'
            clear hrg hL2 hk2 hs0 hn'
            go_wp2_with (at_next; refine wpList_next_ranges _ rfl _ rfl 3 keyI blkElem (Value.int .i64) blkV keyInt_inv blkV_inv (L.wm 2) wo.heap.size (m + n) D left cnt rfl HRG.out ?_ ?_)
            · intro _ hl0
              have HE := Lib.hid (dn_end (k := 2) hl0)
              go_wp2_with fail
              go_roundw
              case rel => exact ⟨2 + 1, n', by omega, rfl, by rw [HE.out], by rw [HE.out], by rw [Hn'.out, HE.out], by have := HL2.out; rw [HE.out] at this; exact this, HK2.out⟩
              case measure => simp [intOf]
            · intro x cb kl yd yp w1 cnt1 hkey hlk hv hat hrg1 hlt1 hg1 hs1 hen
              obtain ⟨rfl, hxw⟩ := keyInt_is hkey
              obtain ⟨qx, hfx, rfl⟩ := wait_entry HD1.out hv hat
              obtain ⟨_, _, hx0, hx1⟩ := hok.out.waits _ (SS.find_some hfx)
              simp only at hx0 hx1
              have hdx := dn_left (k := 2) hlk
              have HL3 := Lib.hid (HL2.out.grown hg1 (fun b hb => by cases hb; exact HR.out _ HK.out.keep.size))
              have HK3 := Lib.hid (HK2.out.grown hg1 (fun b hb => by cases hb; exact HK.out.keep.size) HEL.out)
              have hst := dn_step 2 left x
              have hn2 : s.sumF (dn 2 fun z => left z && !z.sameKey (.int .i64 x)) (fun _ => 1) = ((n' + 1 : Nat) : Int) := by rw [hst, SS.sumF_add hok.out hfx hdx, ← Hn'.out]; rfl
              have HN2 := Lib.hid hn2
              have hnm : m + n' + 1 ≤ m + s.W.length := by have := HN.out (dn 2 fun z => left z && !z.sameKey (.int .i64 x)); rw [hn2] at this; omega
              have HRG1 := Lib.hid hrg1
              have hen' : (Instr.entry (.pointer (some ⟨wo.heap.size, 0, none⟩))).run Tryz.prog w1 = .ok (.tuple #[.int .i64 x, .pointer (some ⟨L.pb 2 (some x), 0, none⟩)]) w1 := hen
              have u1 := HB.out (dn 2 left)
              by_cases hfr : c ≤ x + 2
              · obtain ⟨e1, e2, e3⟩ := free_stuck (o := o) hok.out hfx hdx hfr
                rw [← hst] at e1 e2 e3
                have E1 := Lib.hid e1; have E2 := Lib.hid e2; have E3 := Lib.hid e3
                clear hkey hlk hv hat hrg1 hg1 hs1 hen hst hn2 hfx hdx e1 e2 e3 u1 hnm
                go_wp2_with fail
                go_roundw
                case rel => exact ⟨_, cnt1, n' + 1, HRG1.out, by rw [E2.out], by rw [E3.out], by rw [HN2.out], by rw [E1.out]; exact HL3.out.mono (by omega), HK3.out⟩
                case measure => rw [HRG1.out.left_eq, HRG.out.left_eq]; omega
              · obtain ⟨e2, e3, e4⟩ := free_goes (o := o) hok.out hfx hdx hfr
                have hgot := SS.partF_got (WP.left_keeps o c) hfx hdx
                obtain ⟨hpa, rpa, rma⟩ := HL3.out.poo 2 (some x) qx (by omega) hgot
                have HPLx := Lib.hid (HPL.out _ _ _ qx w1 HK3.out.errs hpa (by have := HM.out; omega))
                have HTN := Lib.hid (fun w2 (hp : PoolP (L.pb 2 (some x)) (L.pm 2 (some x)) (m + n' + 1) (qx.leaveOp o).2.2 w1 w2) =>
                  (HL3.out.turn (k := 2) (oc := some x) (by omega) hgot hp (Nat.le_succ _) (s' := s.partF (dn 2 fun z => left z && !z.sameKey (.int .i64 x)) (·.left o c)) (HOKP.out _) (fun _ _ => rfl) (fun j oc' hj => by
                    have := SS.partF_get (done := dn 2 left) (WP.left_keeps o c) hfx j oc' hj
                    rw [hst, ← e4]; exact this)))
                have HKN := Lib.hid (fun w2 (hp : PoolP (L.pb 2 (some x)) (L.pm 2 (some x)) (m + n' + 1) (qx.leaveOp o).2.2 w1 w2) =>
                  HK3.out.step hp.1 (fun b hb => by rcases hb with rfl | rfl; exact HFF.out _ (by rw [rpa]; simp); exact HFF.out _ (by rw [rma]; simp)) HFE.out)
                have HRN := Lib.hid (fun w2 (hp : PoolP (L.pb 2 (some x)) (L.pm 2 (some x)) (m + n' + 1) (qx.leaveOp o).2.2 w1 w2) =>
                  ranges_keep HRG1.out hp.1 (by rintro (e | e); (rw [← e, RW.out] at rpa; cases rpa); (rw [← e, RW.out] at rma; cases rma)) (by
                    have hrn := HR.out _ HK.out.keep.size
                    rintro (e | e)
                    · rw [← e, hrn] at rpa; cases rpa
                    · rw [← e, hrn] at rma; cases rma))
                have u2 := HB.out (dn 2 fun z => left z && !z.sameKey (.int .i64 x))
                rw [hst, e2] at u2
                rw [← hst] at e2 e3
                have E2 := Lib.hid e2; have E3 := Lib.hid e3
                have lb := QS.leave_pos (hok.out.findOk hfx) o
                clear hkey hlk hv hat hrg1 hg1 hs1 hen hst hn2 hfx hdx e2 e3 e4 hgot hpa rpa rma
                generalize s.sumF (dn 2 left) (·.gets o c) = T1 at *
                generalize s.anyF (dn 2 left) (·.has o c) = B1 at *
                by_cases hcd : (qx.leaveOp o).2.1 = 0
                · have ecd : ev A (qx.leaveOp o).2.1 = .nilIface := by rw [hcd]; rfl
                  rw [hcd] at E2 E3
                  rw [if_pos hcd] at u2
                  have Hcd := Lib.hid hcd; clear hcd
                  generalize (qx.leaveOp o).1 = T2 at *
                  have u3 : T1 + T2 ≤ 9223372036854775807 := by omega
                  have u4 : 0 ≤ T1 + T2 := by omega
                  clear u2
                  go_wp2_with (go_at_call 108; refine HPLx.out.mono ?_; rintro e w2 ⟨rfl, hp2⟩; rw [ecd]; have HT2 := Lib.hid (HTN.out w2 hp2); have HK4 := Lib.hid (HKN.out w2 hp2); have HR2 := Lib.hid (HRN.out w2 hp2); clear hp2)
                  go_roundw
                  case rel => exact ⟨_, cnt1, n' + 1, HR2.out, by rw [E2.out]; rfl, by rw [E3.out]; simp, by rw [HN2.out], HT2.out, HK4.out⟩
                  case measure => rw [HR2.out.left_eq, HRG.out.left_eq]; omega
                · have ecd : ev A (qx.leaveOp o).2.1 = .iface 235 (.pointer (some (A (qx.leaveOp o).2.1))) := ev_some A hcd
                  have E2' := Lib.hid (E2.out.trans (by rw [if_neg hcd, Int.add_zero]))
                  have E3' := Lib.hid (E3.out.trans (show (B1 || ((qx.leaveOp o).2.1 == 0)) = B1 by rw [beq_eq_false_iff_ne.2 hcd, Bool.or_false]))
                  clear E2 E3 u2 hcd
                  generalize (qx.leaveOp o).1 = T2 at *
                  go_wp2_with (go_at_call 108; refine HPLx.out.mono ?_; rintro e w2 ⟨rfl, hp2⟩; rw [ecd]; have HT2 := Lib.hid (HTN.out w2 hp2); have HK4 := Lib.hid (HKN.out w2 hp2); have HR2 := Lib.hid (HRN.out w2 hp2); clear hp2)
                  go_roundw
                  case rel => exact ⟨_, cnt1, n' + 1, HR2.out, by rw [E2'.out], by rw [E3'.out], by rw [HN2.out], HT2.out, HK4.out⟩
                  case measure => rw [HR2.out.left_eq, HRG.out.left_eq]; omega
    · obtain rfl : k = 3 := by omega
      have d3 := dk_three hok.out
      have HA := Lib.hid (show s.anyF (dk 3) (·.has o c) = s.W.any (·.has o c) from SS.anyF_all d3)
      have HSm := Lib.hid (show s.sumF (dk 3) (·.gets o c) = (s.W.map (·.gets o c)).sum from SS.sumF_all d3)
      have HPt := Lib.hid (show s.partF (dk 3) (·.left o c) = ⟨s.P, s.W.map (·.left o c)⟩ from SS.partF_all d3)
      have hnl : m + n ≤ m + s.W.length := by have := (HN.out (dk 3)).2; rw [← Hn.out] at this; omega
      have HP := Lib.hid (show StakesP sb F (m + s.W.length) ⟨s.P, s.W.map (·.left o c)⟩ w wo from ⟨HK.out.keep, L, by rw [← HPt.out]; exact HL.out.mono hnl, fun b hb => .inl (HFF.out b hb), grownF_lt HFL.out HK.out.keep.size⟩)
      have g4' := HK.out.errs.cell 4 h4
      rw [show gE 4 = 3 from rfl] at g4'
      rw [show ev A 4 = .iface 235 (.pointer (some (A 4))) from rfl] at g4'
      clear d3 hnl
      generalize s.sumF (dk 3) (·.gets o c) = T0 at *
      cases hB : s.anyF (dk 3) (·.has o c) with
      | true =>
        have E := Lib.hid (HFO.out.trans (if_pos (HA.out.symm.trans hB)))
        clear hB
        go_wp2_with fail
        go_ret2
        rw [E.out]
        exact ⟨by rw [← HSm.out]; rfl, HP.out⟩
      | false =>
        have E := Lib.hid (HFO.out.trans (if_neg (by rw [← HA.out, hB]; simp)))
        clear hB
        go_wp2_with fail
        go_quiet (fail)
        go_wp2_with fail
        go_ret2
        rw [E.out]
        exact ⟨rfl, HP.out.drewN _⟩

theorem SS.freeOp_bad {s : SS} {o c : Int} (h : cycleC c ≠ 0 ∨ ownB o = false) : s.freeOp o c = (0, 2, s) := by unfold SS.freeOp; rw [if_pos h]
theorem stake_Free (A : Nat → Addr) (S : List Nat) (sb m : Nat) (F : Nat → Prop) (s : SS) (o c : Int) (w : World) (h : StakesAt sb F m s w) (hE : Errs A S w) (h2 : 2 ∈ S) (h4 : 4 ∈ S) (hFE : ∀ c ∈ S, ¬ F (gE c))
    (hW : s.W.length ≤ 8000) (hm : m + s.W.length < maxLen) :
    Calls Tryz.prog 89 #[.pointer (some ⟨sb, 0, none⟩), .int .i64 o, .int .i64 c] w fun e w' => e = .returned (.tuple #[.int .i64 (s.freeOp o c).1, ev A (s.freeOp o c).2.1]) ∧ StakesP sb F (m + s.W.length) (s.freeOp o c).2.2 w w' := by
  by_cases hb : cycleC c ≠ 0 ∨ ownB o = false
  · have HS := Lib.hid ((StakesP.refl h).mono (show m ≤ m + s.W.length by omega))
    have E := Lib.hid (SS.freeOp_bad (s := s) hb)
    have g2 : w.cell? ⟨0, 0, none⟩ = some (.iface 235 (.pointer (some (A 2)))) := hE.cell 2 h2
    have HC := Lib.hid (stake_cycleError A S c w hE h2)
    by_cases hcy : cycleC c = 0
    · have ec : ev A (cycleC c) = .nilIface := by rw [hcy]; rfl
      have ho : ownB o = false := by rcases hb with hb | hb; exact absurd hcy hb; exact hb
      have hw : o < 0 ∨ (0 ≤ o ∧ 6 ≤ o) := by
        have : ¬ (0 ≤ o ∧ o < 6) := fun hh => by rw [ownB_iff.2 hh] at ho; cases ho
        omega
      clear h hE hb ho hcy
      rcases hw with h0 | ⟨h0, h1⟩
      all_goals
        go_enter Tryz.func89, Tryz.ntmps89
        go_wp2_with (go_at_call 105; refine HC.out.mono ?_; rintro e w' ⟨rfl, rfl⟩; rw [ec])
        go_quiet (fail)
        go_wp2_with fail
        go_ret2
        rw [E.out]
        exact ⟨rfl, HS.out.drewN _⟩
    · have ec : ev A (cycleC c) = .iface 235 (.pointer (some (A 2))) := by
        have : cycleC c = 2 := by unfold cycleC at hcy ⊢; split at hcy <;> simp_all
        rw [this]; rfl
      clear h hE hb hcy
      go_enter Tryz.func89, Tryz.ntmps89
      go_wp2_with (go_at_call 105; refine HC.out.mono ?_; rintro e w' ⟨rfl, rfl⟩; rw [ec])
      go_quiet (fail)
      go_wp2_with fail
      go_ret2
      rw [E.out]
      exact ⟨rfl, HS.out.drewN _⟩
  · obtain ⟨L, hL, hF, hlt⟩ := h
    simp only [not_or, Decidable.not_not] at hb
    exact stake_Free_in A S sb m F L s o c w hL hF hlt hE h2 h4 hFE hW hm hb.1 (by simpa using hb.2)
end Go.Proofs.YtajnfkmkombajabGreatDoor
