/-
  The walk of stake.Leave.
  Contract: stake.Waits; stakes in memory that is new; the closed fact of the stakes' laws.
  The closed fact of the stakes' laws.
  A slice of one-cell elements that the call owns, wherever in its block it begins: reading, l[1:], appending one element. No program in sight.
-/
import Derived.Test.YtajnfkmkombajabGreatDoorQSR10
import Derived.Test.YtajnfkmkombajabGreatDoorQSR12
import Derived.Test.YtajnfkmkombajabGreatDoorQSR01
import Derived.ArgAppend
import Derived.Deep.RegionLaw
set_option linter.unusedVariables false
set_option linter.unusedSimpArgs false
set_option linter.unusedVariables false
namespace Go.Proofs.YtajnfkmkombajabGreatDoor
open Go.RowKit Go.Maps

/-- behind the copy -/
structure CopyW (w : World) (m : Nat) (q : QS) (wx : World) : Prop where
  below : Below w.heap.size w wx
  pool : PoolAt (w.heap.size + 1) w.heap.size m q wx
  size : wx.heap.size = w.heap.size + 2

set_option maxRecDepth 8000 in
set_option maxHeartbeats 2000000 in
theorem stake_Leave_none (A : Nat → Addr) (S : List Nat) (sb : Nat) (F : Nat → Prop) (m : Nat) (s : SS) (L : Lay) (o n c : Int) (j : Nat) (q : QS) (w : World) (hL : StakesL sb L m s w) (hF : ∀ b, L.role b ≠ .none → F b) (hlt : ∀ b, F b → b < w.heap.size) (hj : j < 3) (hi : s.is j = true) (hq : s.pool j = some q) (hg : s.get j none = some q)
    (hE : Errs A S w) (h2 : 2 ∈ S) (h6 : 6 ∈ S) (h7 : 7 ∈ S) (h8 : 8 ∈ S) (hm : m + 1 < maxLen) (hcw : (Lit.int .i64 c).wf = true) (hcy : cycleC c = 0) (hf : s.find j c = none) :
    Calls Tryz.prog 86 #[.pointer (some ⟨sb, 0, none⟩), .int .i64 o, .int .i64 j, .int .i64 n, .int .i64 c] w fun e w' => e = .returned (ev A (s.leaveOp o j n c).1) ∧ StakesP sb F (m + 2) (s.leaveOp o j n c).2 w w' := by
  have hSA : StakesAt sb F m s w := ⟨L, hL, hF, hlt⟩
  have HS := Lib.hid (fun w' hb => (StakesP.of_below (w' := w') hSA hb).mono (show m ≤ m + 2 by omega))
  have HB := Lib.hid (stake_baker_yes sb L m s j w hL hj hi)
  have HC := Lib.hid (stake_cycleError A S c w hE h2)
  have ec : ev A (cycleC c) = .nilIface := by rw [hcy]; rfl
  have HCP := Lib.hid (pool_Copy _ _ m q w.drew ((hL.poo j none q hj hg).1.drewN 1))
  obtain ⟨c0, c1⟩ := hL.baker hj hi
  have HE := Lib.hid hE
  have hl0 := hL.look hj hi c hcw w.drew rfl
  have hbb : L.bb j < w.heap.size := hlt _ (hF _ (by rw [(hL.bak j hj hi).2]; simp))
  have hwm : L.wm j < w.heap.size := hlt _ (hF _ (by rw [(hL.wai j hj hi).1]; simp))
  generalize hWV : (if (s.find j c).isSome then Value.pointer (some ⟨L.pb j (some c), 0, none⟩) else .pointer none) = wv at hl0
  have HX : Hid (∀ wx : World, Below w.heap.size w wx → wx.cell? ⟨L.bb j, 0, none⟩ = some (.pointer (some ⟨L.pb j none, 0, none⟩)) ∧ wx.cell? ⟨L.bb j, 1, none⟩ = some (.map (some (L.wm j))) ∧ (Instr.lookup 91 (.map (some (L.wm j))) (.int .i64 c) false).run Tryz.prog wx = .ok wv wx) :=
    Lib.hid (fun wx hb => ⟨by rw [hb.cell (p := ⟨L.bb j, 0, none⟩) hbb]; exact c0, by rw [hb.cell (p := ⟨L.bb j, 1, none⟩) hbb]; exact c1, by have := hL.look hj hi c hcw wx (hb.block _ hwm); rw [hWV] at this; exact this⟩)
  obtain rfl : wv = .pointer none := by rw [← hWV, hf]; rfl
  have HTK := Lib.hid (fun wx hE hp => pool_Take A S (w.heap.size + 1) w.heap.size m q o n wx hE h2 h6 hp (by omega))
  have HJN := Lib.hid (fun b mb wx hE hp => pool_Join A S b mb 0 QS.new o n wx hE h2 h7 h8 hp (by unfold maxLen; omega))
  have HW := Lib.hid (show (∃ k, (q.takeOp o n).1 = k ∧ k ≠ 0 ∧ s.leaveOp o j n c = (k, s)) ∨ ((q.takeOp o n).1 = 0 ∧ ∃ k, (QS.new.joinOp o n).1 = k ∧ k ≠ 0 ∧ s.leaveOp o j n c = (k, s)) ∨ ((q.takeOp o n).1 = 0 ∧ (QS.new.joinOp o n).1 = 0 ∧ s.leaveOp o j n c = (0, (s.setP j (q.takeOp o n).2).setW j c (QS.new.joinOp o n).2)) by
    have hv : (s.find j c).getD QS.new = QS.new := by rw [hf]; rfl
    by_cases ht : (q.takeOp o n).1 = 0
    · by_cases hjn : (QS.new.joinOp o n).1 = 0
      · exact .inr (.inr ⟨ht, hjn, leave_in hq hcy ht hv hjn⟩)
      · exact .inr (.inl ⟨ht, _, rfl, hjn, leave_join hq hcy ht hv hjn⟩)
    · exact .inl ⟨_, rfl, ht, leave_take hq hcy ht⟩)
  have HL := Lib.hid (fun q' v' w4 pb mb wb wx hs M r1 => hL.leaves (q' := q') (v' := v') (w4 := w4) (pb := pb) (mb := mb) (wb := wb) (wx := wx) hF hlt hj hi hg (c := c) hs (Nat.le_succ m) M r1)
  have HOK := Lib.hid (SS.leaveOp_ok hL.ok o j n c)
  clear hWV hSA hL hF hlt hE hq hg hf hi
  go_enter Tryz.func86, Tryz.ntmps86
  go_upto_region 7 with (first
    | (go_at_call 78; refine HB.out.mono ?_; rintro e w' ⟨rfl, rfl⟩)
    | (go_at_call 105; refine HC.out.mono ?_; rintro e w' ⟨rfl, rfl⟩; rw [ec]))
  go_cut [14, 15] (fun p x wx => p = .pointer (some ⟨w.heap.size + 1, 0, none⟩) ∧ x = .pointer none ∧ CopyW w m q wx)
  case first =>
    go_region_with (go_at_call 106; refine HCP.out.mono ?_; rintro e w1 ⟨rfl, hb1, hp1, hs1⟩; have hb1' : Below w.heap.size w w1 := (⟨hb1.os, hb1.tape, hb1.output, hb1.size, hb1.block⟩); obtain ⟨x0, x1, x2⟩ := HX.out w1 hb1')
    all_goals go_wp2_with fail
    all_goals go_meet
    all_goals (case rel => exact ⟨rfl, rfl, hb1', hp1, hs1⟩)
  case rest =>
    obtain ⟨rfl, rfl, hcut⟩ := hcut
    have HK := Lib.hid hcut; clear hcut
    have HEc := Lib.hid (HE.out.below HK.out.below)
    rcases HW.out with ⟨k, ht, hk, E⟩ | ⟨ht, k, hjn, hk, E⟩ | ⟨ht, hjn, E⟩
    · have et : ev A (q.takeOp o n).1 = .iface 235 (.pointer (some (A k))) := by rw [ht]; exact ev_some A hk
      have E1 := Lib.hid E; clear E ht
      go_wp2_with (first
        | (go_at_call 30; refine (pool_New _).mono ?_; rintro e w2 ⟨mb2, rfl, hb2, hmb2, hp2⟩; have HB2 := Lib.hid hb2; have HP2 := Lib.hid hp2; clear hb2 hp2)
        | (go_at_call 107; refine (HTK.out _ (HEc.out.below HB2.out) (HK.out.pool.keep (Keep.of_below (F := fun _ => False) HB2.out) id id)).mono ?_; rintro e w3 ⟨rfl, h3⟩; rw [et]))
      go_ret
      rw [E1.out]
      exact ⟨by rw [ev_some A hk]; rfl, HS.out _ (Keep.after (btrans HK.out.below HB2.out) h3.1 (fun i hi => by rcases hi with rfl | rfl <;> omega))⟩
    · have et : ev A (q.takeOp o n).1 = .nilIface := by rw [ht]; rfl
      have ej : ev A (QS.new.joinOp o n).1 = .iface 235 (.pointer (some (A k))) := by rw [hjn]; exact ev_some A hk
      have E1 := Lib.hid E; clear E ht hjn
      go_wp2_with (first
        | (go_at_call 30; refine (pool_New _).mono ?_; rintro e w2 ⟨mb2, rfl, hb2, hmb2, hp2⟩; have HB2 := Lib.hid hb2; have HP2 := Lib.hid hp2; clear hb2 hp2)
        | (go_at_call 107; refine (HTK.out _ (HEc.out.below HB2.out) (HK.out.pool.keep (Keep.of_below (F := fun _ => False) HB2.out) id id)).mono ?_; rintro e w3 ⟨rfl, h3⟩; rw [et]; have H3 := Lib.hid h3; have HB3 := Lib.hid (Keep.after (btrans HK.out.below HB2.out) h3.1 (fun i hi => by rcases hi with rfl | rfl <;> omega)); clear h3; have HP3 := Lib.hid (HP2.out.keep H3.out.1 (by have := HK.out.size; omega) (by have := HK.out.size; omega)))
        | (go_at_call 79; refine (HJN.out _ _ _ (HE.out.below HB3.out) HP3.out).mono ?_; rintro e w4 ⟨rfl, h4⟩; rw [ej]))
      go_ret
      rw [E1.out]
      exact ⟨by rw [ev_some A hk]; rfl, HS.out _ (Keep.after HB3.out h4.1 (fun i hi => by have := HK.out.size; rcases hi with rfl | rfl <;> omega))⟩
    · have et : ev A (q.takeOp o n).1 = .nilIface := by rw [ht]; rfl
      have ej : ev A (QS.new.joinOp o n).1 = .nilIface := by rw [hjn]; rfl
      have hok := HOK.out; rw [E] at hok
      have HOK2 := Lib.hid hok
      have E1 := Lib.hid E; clear E ht hjn hok
      go_wp2_with (first
        | (go_at_call 30; refine (pool_New _).mono ?_; rintro e w2 ⟨mb2, rfl, hb2, hmb2, hp2⟩; have HB2 := Lib.hid hb2; have HP2 := Lib.hid hp2; clear hb2 hp2)
        | (go_at_call 107; refine (HTK.out _ (HEc.out.below HB2.out) (HK.out.pool.keep (Keep.of_below (F := fun _ => False) HB2.out) id id)).mono ?_; rintro e w3 ⟨rfl, h3⟩; rw [et]; have H3 := Lib.hid h3; have HB3 := Lib.hid (Keep.after (btrans HK.out.below HB2.out) h3.1 (fun i hi => by rcases hi with rfl | rfl <;> omega)); clear h3; have HP3 := Lib.hid (HP2.out.keep H3.out.1 (by have := HK.out.size; omega) (by have := HK.out.size; omega)))
        | (go_at_call 79; refine (HJN.out _ _ _ (HE.out.below HB3.out) HP3.out).mono ?_; rintro e w4 ⟨rfl, h4⟩; rw [ej];
            have HB4 := Lib.hid (Keep.after HB3.out h4.1 (fun i hi => by have := HK.out.size; rcases hi with rfl | rfl <;> omega));
            have hM : LeaveM w w4 L j c (m + 1) (w.heap.size + 1) w.heap.size (wc.heap.size + 1) mb2 (q.takeOp o n).2 (QS.new.joinOp o n).2 := (⟨Keep.of_below HB4.out, H3.out.2.keep h4.1 (by have := HK.out.size; omega) (by have := HK.out.size; omega), h4.2.mono (by omega), by omega, by omega, by have := HK.out.size; omega, by have := HK.out.size; omega, by have := HK.out.size; omega, by have := HK.out.size; omega⟩);
            obtain ⟨D, o5, x0, x1, x2, hend⟩ := HL.out _ _ _ _ _ _ _ HOK2.out hM (.inl (by have := HK.out.size; omega));
            obtain ⟨v0, st, w6, hme, hmt, hst⟩ := own_entry o5 keyI Tryz.underlying91 hm ptrZero (keyOf_int_mk Tryz.underlying3 hcw);
            obtain ⟨w7, hes, o7, ht7⟩ := hst (blkElem_mk (wc.heap.size + 1));
            have HEND := Lib.hid (hend w7 ht7 o7);
            clear hend o7 ht7 hst hmt o5 hM h4))
      go_ret
      rw [E1.out]
      exact ⟨rfl, HEND.out⟩
set_option maxRecDepth 8000 in
set_option maxHeartbeats 2000000 in
theorem stake_Leave_some (A : Nat → Addr) (S : List Nat) (sb : Nat) (F : Nat → Prop) (m : Nat) (s : SS) (L : Lay) (o n c : Int) (j : Nat) (q : QS) (w : World) (hL : StakesL sb L m s w) (hF : ∀ b, L.role b ≠ .none → F b) (hlt : ∀ b, F b → b < w.heap.size) (hj : j < 3) (hi : s.is j = true) (hq : s.pool j = some q) (hg : s.get j none = some q)
    (hE : Errs A S w) (h2 : 2 ∈ S) (h6 : 6 ∈ S) (h7 : 7 ∈ S) (h8 : 8 ∈ S) (hm : m + 1 < maxLen) (hcw : (Lit.int .i64 c).wf = true) (hcy : cycleC c = 0) (v : QS) (hf : s.find j c = some v) :
    Calls Tryz.prog 86 #[.pointer (some ⟨sb, 0, none⟩), .int .i64 o, .int .i64 j, .int .i64 n, .int .i64 c] w fun e w' => e = .returned (ev A (s.leaveOp o j n c).1) ∧ StakesP sb F (m + 2) (s.leaveOp o j n c).2 w w' := by
  have hSA : StakesAt sb F m s w := ⟨L, hL, hF, hlt⟩
  have HS := Lib.hid (fun w' hb => (StakesP.of_below (w' := w') hSA hb).mono (show m ≤ m + 2 by omega))
  have HB := Lib.hid (stake_baker_yes sb L m s j w hL hj hi)
  have HC := Lib.hid (stake_cycleError A S c w hE h2)
  have ec : ev A (cycleC c) = .nilIface := by rw [hcy]; rfl
  have HCP := Lib.hid (pool_Copy _ _ m q w.drew ((hL.poo j none q hj hg).1.drewN 1))
  obtain ⟨c0, c1⟩ := hL.baker hj hi
  have HE := Lib.hid hE
  have hl0 := hL.look hj hi c hcw w.drew rfl
  have hbb : L.bb j < w.heap.size := hlt _ (hF _ (by rw [(hL.bak j hj hi).2]; simp))
  have hwm : L.wm j < w.heap.size := hlt _ (hF _ (by rw [(hL.wai j hj hi).1]; simp))
  generalize hWV : (if (s.find j c).isSome then Value.pointer (some ⟨L.pb j (some c), 0, none⟩) else .pointer none) = wv at hl0
  have HX : Hid (∀ wx : World, Below w.heap.size w wx → wx.cell? ⟨L.bb j, 0, none⟩ = some (.pointer (some ⟨L.pb j none, 0, none⟩)) ∧ wx.cell? ⟨L.bb j, 1, none⟩ = some (.map (some (L.wm j))) ∧ (Instr.lookup 91 (.map (some (L.wm j))) (.int .i64 c) false).run Tryz.prog wx = .ok wv wx) :=
    Lib.hid (fun wx hb => ⟨by rw [hb.cell (p := ⟨L.bb j, 0, none⟩) hbb]; exact c0, by rw [hb.cell (p := ⟨L.bb j, 1, none⟩) hbb]; exact c1, by have := hL.look hj hi c hcw wx (hb.block _ hwm); rw [hWV] at this; exact this⟩)
  obtain rfl : wv = .pointer (some ⟨L.pb j (some c), 0, none⟩) := by rw [← hWV, hf]; rfl
  obtain ⟨hpv, rpv, rmv⟩ := hL.poo j (some c) v hj hf
  have lpv : L.pb j (some c) < w.heap.size ∧ L.pm j (some c) < w.heap.size := hpv.lt
  have HTK := Lib.hid (fun wx hE hp => pool_Take A S (w.heap.size + 1) w.heap.size m q o n wx hE h2 h6 hp (by omega))
  have HJN := Lib.hid (fun b mb wx hE hp => pool_Join A S b mb m v o n wx hE h2 h7 h8 hp (by omega))
  have HW := Lib.hid (show (∃ k, (q.takeOp o n).1 = k ∧ k ≠ 0 ∧ s.leaveOp o j n c = (k, s)) ∨ ((q.takeOp o n).1 = 0 ∧ ∃ k, (v.joinOp o n).1 = k ∧ k ≠ 0 ∧ s.leaveOp o j n c = (k, s)) ∨ ((q.takeOp o n).1 = 0 ∧ (v.joinOp o n).1 = 0 ∧ s.leaveOp o j n c = (0, (s.setP j (q.takeOp o n).2).setW j c (v.joinOp o n).2)) by
    have hv : (s.find j c).getD QS.new = v := by rw [hf]; rfl
    by_cases ht : (q.takeOp o n).1 = 0
    · by_cases hjn : (v.joinOp o n).1 = 0
      · exact .inr (.inr ⟨ht, hjn, leave_in hq hcy ht hv hjn⟩)
      · exact .inr (.inl ⟨ht, _, rfl, hjn, leave_join hq hcy ht hv hjn⟩)
    · exact .inl ⟨_, rfl, ht, leave_take hq hcy ht⟩)
  have HL := Lib.hid (fun q' v' w4 pb mb hs M => hL.leaves (q' := q') (v' := v') (w4 := w4) (pb := pb) (mb := mb) (wb := L.pb j (some c)) (wx := L.pm j (some c)) hF hlt hj hi hg (c := c) hs (Nat.le_succ m) M (.inr ⟨rfl, rfl, by rw [hf]; rfl⟩))
  have HPV := Lib.hid hpv
  have HU := Lib.hid (fun w3 w4 (hb : Below w.heap.size w w3) (hp : PoolP (L.pb j (some c)) (L.pm j (some c)) (m + 1) v w3 w4) =>
    ((StakesP.after (sb := sb) (n := m + 1) (s := s) hb hlt ((hL.keep (Keep.of_below (F := fun _ => False) hb) (fun _ _ => id)).turned hF (fun b hx => Nat.lt_of_lt_of_le (hlt b hx) hb.size) hj (q := v) (show s.get j (some c) = some v from hf) hp (Nat.le_succ m) hL.ok (fun _ _ => rfl)
      (fun j' oc' _ => ⟨by rintro ⟨rfl, rfl⟩; exact hf, fun _ => rfl⟩))).mono (Nat.le_succ (m + 1)) : StakesP sb F (m + 2) s w w4))
  have HOK := Lib.hid (SS.leaveOp_ok hL.ok o j n c)
  clear hWV hSA hL hF hlt hE hq hg hf hi hpv
  go_enter Tryz.func86, Tryz.ntmps86
  go_upto_region 7 with (first
    | (go_at_call 78; refine HB.out.mono ?_; rintro e w' ⟨rfl, rfl⟩)
    | (go_at_call 105; refine HC.out.mono ?_; rintro e w' ⟨rfl, rfl⟩; rw [ec]))
  go_cut [14, 15] (fun p x wx => p = .pointer (some ⟨w.heap.size + 1, 0, none⟩) ∧ x = .pointer (some ⟨L.pb j (some c), 0, none⟩) ∧ CopyW w m q wx)
  case first =>
    go_region_with (go_at_call 106; refine HCP.out.mono ?_; rintro e w1 ⟨rfl, hb1, hp1, hs1⟩; have hb1' : Below w.heap.size w w1 := (⟨hb1.os, hb1.tape, hb1.output, hb1.size, hb1.block⟩); obtain ⟨x0, x1, x2⟩ := HX.out w1 hb1')
    all_goals go_wp2_with fail
    all_goals go_meet
    all_goals (case rel => exact ⟨rfl, rfl, hb1', hp1, hs1⟩)
  case rest =>
    obtain ⟨rfl, rfl, hcut⟩ := hcut
    have HK := Lib.hid hcut; clear hcut
    have HEc := Lib.hid (HE.out.below HK.out.below)
    rcases HW.out with ⟨k, ht, hk, E⟩ | ⟨ht, k, hjn, hk, E⟩ | ⟨ht, hjn, E⟩
    · have et : ev A (q.takeOp o n).1 = .iface 235 (.pointer (some (A k))) := by rw [ht]; exact ev_some A hk
      have E1 := Lib.hid E; clear E ht
      go_wp2_with (first
        | (go_at_call 107; refine (HTK.out _ HEc.out HK.out.pool).mono ?_; rintro e w3 ⟨rfl, h3⟩; rw [et]))
      go_ret
      rw [E1.out]
      exact ⟨by rw [ev_some A hk]; rfl, HS.out _ (Keep.after HK.out.below h3.1 (fun i hi => by rcases hi with rfl | rfl <;> omega))⟩
    · have et : ev A (q.takeOp o n).1 = .nilIface := by rw [ht]; rfl
      have ej : ev A (v.joinOp o n).1 = .iface 235 (.pointer (some (A k))) := by rw [hjn]; exact ev_some A hk
      have HJC := Lib.hid (show (v.joinOp o n).1 ≠ 0 by rw [hjn]; exact hk)
      have E1 := Lib.hid E; clear E ht hjn
      go_wp2_with (first
        | (go_at_call 107; refine (HTK.out _ HEc.out HK.out.pool).mono ?_; rintro e w3 ⟨rfl, h3⟩; rw [et]; have H3 := Lib.hid h3; have HB3 := Lib.hid (Keep.after HK.out.below h3.1 (fun i hi => by rcases hi with rfl | rfl <;> omega)); clear h3; have HP3 := Lib.hid ((HPV.out.below HK.out.below lpv.1 lpv.2).keep H3.out.1 (by omega) (by omega)))
        | (go_at_call 79; refine (HJN.out _ _ _ (HE.out.below HB3.out) HP3.out).mono ?_; rintro e w4 ⟨rfl, h4⟩; rw [ej]))
      go_ret
      rw [E1.out]
      exact ⟨by rw [ev_some A hk]; rfl, HU.out _ _ HB3.out (by have h5 := h4; rw [(QS.join_total o n).2 (by have := HJC.out; omega)] at h5; exact h5)⟩
    · have et : ev A (q.takeOp o n).1 = .nilIface := by rw [ht]; rfl
      have ej : ev A (v.joinOp o n).1 = .nilIface := by rw [hjn]; rfl
      have hok := HOK.out; rw [E] at hok
      have HOK2 := Lib.hid hok
      have E1 := Lib.hid E; clear E ht hjn hok
      go_wp2_with (first
        | (go_at_call 107; refine (HTK.out _ HEc.out HK.out.pool).mono ?_; rintro e w3 ⟨rfl, h3⟩; rw [et]; have H3 := Lib.hid h3; have HB3 := Lib.hid (Keep.after HK.out.below h3.1 (fun i hi => by rcases hi with rfl | rfl <;> omega)); clear h3; have HP3 := Lib.hid ((HPV.out.below HK.out.below lpv.1 lpv.2).keep H3.out.1 (by omega) (by omega)))
        | (go_at_call 79; refine (HJN.out _ _ _ (HE.out.below HB3.out) HP3.out).mono ?_; rintro e w4 ⟨rfl, h4⟩; rw [ej];
            have hK4 := ((Keep.of_below (F := fun b => L.role b = .poo j (some c) ∨ L.role b = .map j (some c)) HB3.out).trans (h4.1.mono (fun i hi => by rcases hi with rfl | rfl; exact .inl rpv; exact .inr rmv)));
            have hM : LeaveM w w4 L j c (m + 1) (w.heap.size + 1) w.heap.size (L.pb j (some c)) (L.pm j (some c)) (q.takeOp o n).2 (v.joinOp o n).2 := (⟨hK4, H3.out.2.keep h4.1 (by omega) (by omega), h4.2, by omega, by omega, by omega, by omega, by omega, by omega⟩);
            obtain ⟨D, o5, x0, x1, x2, hend⟩ := HL.out _ _ _ _ _ HOK2.out hM;
            obtain ⟨v0, st, w6, hme, hmt, hst⟩ := own_entry o5 keyI Tryz.underlying91 hm ptrZero (keyOf_int_mk Tryz.underlying3 hcw);
            obtain ⟨w7, hes, o7, ht7⟩ := hst (blkElem_mk (L.pb j (some c)));
            have HEND := Lib.hid (hend w7 ht7 o7);
            clear hend o7 ht7 hst hmt o5 hM h4 hK4))
      go_ret
      rw [E1.out]
      exact ⟨rfl, HEND.out⟩
theorem stake_Leave (A : Nat → Addr) (S : List Nat) (sb : Nat) (F : Nat → Prop) (m : Nat) (s : SS) (o k n c : Int) (w : World) (h : StakesAt sb F m s w) (hE : Errs A S w) (h2 : 2 ∈ S) (h4 : 4 ∈ S) (h6 : 6 ∈ S) (h7 : 7 ∈ S) (h8 : 8 ∈ S) (hm : m + 1 < maxLen) (hcw : (Lit.int .i64 c).wf = true) :
    Calls Tryz.prog 86 #[.pointer (some ⟨sb, 0, none⟩), .int .i64 o, .int .i64 k, .int .i64 n, .int .i64 c] w fun e w' => e = .returned (ev A (s.leaveOp o k n c).1) ∧ StakesP sb F (m + 2) (s.leaveOp o k n c).2 w w' := by
  obtain ⟨L, hL, hF, hlt⟩ := h
  have HS := Lib.hid ((StakesP.refl (F := F) ⟨L, hL, hF, hlt⟩).mono (show m ≤ m + 2 by omega))
  rcases reg_cases hL.ok k with hi | ⟨j, rfl, hj, hi⟩
  · have E := Lib.hid (leave_no (o := o) (n := n) (c := c) hi)
    have HB := Lib.hid (stake_baker_no A S sb L m s k w hL hi hE h4)
    clear hL hF hlt hi hE
    go_enter Tryz.func86, Tryz.ntmps86
    go_wp2_with (go_at_call 78; refine HB.out.mono ?_; rintro e w' ⟨rfl, d, rfl⟩)
    go_ret
    rw [E.out]
    exact ⟨rfl, HS.out.drewN d⟩
  · obtain ⟨q, hq, hg⟩ := SS.is_some hi
    by_cases hcy : cycleC c = 0
    · cases hf : s.find j c with
      | none => exact stake_Leave_none A S sb F m s L o n c j q w hL hF hlt hj hi hq hg hE h2 h6 h7 h8 hm hcw hcy hf
      | some v => exact stake_Leave_some A S sb F m s L o n c j q w hL hF hlt hj hi hq hg hE h2 h6 h7 h8 hm hcw hcy v hf
    · have E := Lib.hid (leave_cyc (o := o) (n := n) hq hcy)
      have HB := Lib.hid (stake_baker_yes sb L m s j w hL hj hi)
      have HC := Lib.hid (stake_cycleError A S c w hE h2)
      have ec : ev A (cycleC c) = .iface 235 (.pointer (some (A 2))) := by
        have : cycleC c = 2 := by unfold cycleC at hcy ⊢; split at hcy <;> simp_all
        rw [this]; rfl
      clear hL hF hlt hi hE hcy hq hg
      go_enter Tryz.func86, Tryz.ntmps86
      go_wp2_with (first
        | (go_at_call 78; refine HB.out.mono ?_; rintro e w' ⟨rfl, rfl⟩)
        | (go_at_call 105; refine HC.out.mono ?_; rintro e w' ⟨rfl, rfl⟩; rw [ec]))
      go_ret
      rw [E.out]
      exact ⟨rfl, HS.out⟩
end Go.Proofs.YtajnfkmkombajabGreatDoor
namespace Go.Proofs.YtajnfkmkombajabGreatDoor
open Go.RowKit Go.Maps

theorem SS.waits_no {s : SS} (h : s.Ok) {k : Int} (hi : s.is k = false) (o c : Int) : s.waits o k c = 0 := by
  unfold SS.waits
  cases hf : s.find k c with
  | none => rfl
  | some q => have := (h.waits _ (SS.find_some hf)).2.1; simp only at this; rw [hi] at this; cases this

set_option maxRecDepth 8000 in
theorem stake_Waits (A : Nat → Addr) (S : List Nat) (sb m : Nat) (L : Lay) (s : SS) (o k c : Int) (w : World) (h : StakesL sb L m s w) (hE : Errs A S w) (h2 : 2 ∈ S) (ho : (Lit.int .i64 o).wf = true) (hc : (Lit.int .i64 c).wf = true) :
    Calls Tryz.prog 62 #[.pointer (some ⟨sb, 0, none⟩), .int .i64 o, .int .i64 k, .int .i64 c] w fun e w' => e = .returned (.int .i64 (s.waits o k c)) ∧ Dr w w' := by
  have HI := Lib.hid (stake_Is sb L m s k w h)
  rcases reg_cases h.ok k with hi | ⟨j, rfl, hj, hi⟩
  · rw [hi] at HI
    have HV := Lib.hid (SS.waits_no h.ok hi o c)
    clear h hi hE
    go_enter Tryz.func62, Tryz.ntmps62
    go_wp2_with (go_at_call 29; refine HI.out.mono ?_; rintro e w' ⟨rfl, rfl⟩)
    go_ret
    exact ⟨by rw [HV.out]; rfl, Dr.refl _⟩
  · rw [hi] at HI
    have hcl := h.cell hj
    rw [bptr_yes hi] at hcl
    obtain ⟨c0, c1⟩ := h.baker hj hi
    have hlk := h.look hj hi c hc w rfl
    cases hf : s.find j c with
    | none =>
      rw [hf] at hlk
      simp only [Option.isSome_none, Bool.false_eq_true, if_false] at hlk
      have HV := Lib.hid (show s.waits o j c = 0 by unfold SS.waits; rw [hf]; rfl)
      clear h hi hE hf
      go_enter Tryz.func62, Tryz.ntmps62
      go_wp2_with (go_at_call 29; refine HI.out.mono ?_; rintro e w' ⟨rfl, rfl⟩)
      go_ret
      exact ⟨by rw [HV.out]; rfl, Dr.refl _⟩
    | some q =>
      rw [hf] at hlk
      simp only [Option.isSome_some, if_true] at hlk
      have HV := Lib.hid (show s.waits o j c = q.value o by unfold SS.waits; rw [hf]; rfl)
      have HP := Lib.hid (pool_Value A S _ _ _ _ o w hE h2 (h.poo j (some c) q hj hf).1 ho)
      clear h hi hE hf
      go_enter Tryz.func62, Tryz.ntmps62
      go_wp2_with (first
        | (go_at_call 29; refine HI.out.mono ?_; rintro e w' ⟨rfl, rfl⟩)
        | (go_at_call 94; refine HP.out.mono ?_; rintro e w' ⟨rfl, d, rfl⟩))
      go_ret
      exact ⟨by rw [HV.out]; rfl, d, rfl⟩

/-- stakes in memory that is new since W -/
structure SU (W : World) (sb : Nat) (F : Nat → Prop) (n : Nat) (s : SS) (w : World) : Prop where
  below : Below W.heap.size W w
  st : StakesAt sb F n s w
  new : ∀ b, F b → W.heap.size ≤ b
section
variable {W w w' : World} {sb n m : Nat} {F : Nat → Prop} {s s' : SS}
theorem SU.of (h : SU W sb F n s w) (k : StakesP sb F m s' w w') : SU W sb (grownF F w w') m s' w' :=
  ⟨Keep.after h.below k.1 h.new, k.2, fun b hb => by rcases hb with hb | hb; exact h.new b hb; exact Nat.le_trans h.below.size hb.1⟩
theorem SU.next (h : SU W sb F n s w) (k : Below w.heap.size w w') : SU W sb F n s w' := ⟨btrans h.below k, h.st.below k, h.new⟩
theorem SU.drewN (h : SU W sb F n s w) (k : Nat) : SU W sb F n s (w.drewN k) := ⟨h.below.drewN k, h.st.drewN k, h.new⟩
theorem SU.dr (h : SU W sb F n s w) (k : Dr w w') : SU W sb F n s w' := by obtain ⟨j, rfl⟩ := k; exact h.drewN j
theorem SU.mono (h : SU W sb F n s w) (hm : n ≤ m) : SU W sb F m s w := ⟨h.below, h.st.mono hm, h.new⟩
theorem SU.keep {G : Nat → Prop} (h : SU W sb F n s w) (k : Keep G w w') (hG : ∀ b, G b → W.heap.size ≤ b) (hd : ∀ b, F b → ¬ G b) : SU W sb F n s w' := ⟨Keep.after h.below k hG, h.st.keep k hd, h.new⟩
theorem SU.fe {A : Nat → Addr} {S : List Nat} (h : SU W sb F n s w) (hE : Errs A S W) : ∀ c ∈ S, ¬ F (gE c) := fun c hc hf => by have := h.new _ hf; have := hE.lt hc; omega
theorem grownF_not {b : Nat} (hF : ¬ F b) (hb : b < w.heap.size) : ¬ grownF F w w' b := fun h => by rcases h with h | h; exact hF h; omega
end

theorem SS.join_len (s : SS) (o k n : Int) : (s.joinOp o k n).2.W = s.W := by unfold SS.joinOp; cases s.pool k <;> rfl
theorem SS.add_len (s : SS) (k n : Int) : (s.addOp k n).2.W = s.W := by unfold SS.addOp; cases s.pool k <;> rfl
theorem SS.reg_len (s : SS) (k : Int) : (s.regOp k).2.W = s.W := by unfold SS.regOp; split; rfl; split <;> rfl
theorem SS.free_len (s : SS) (o c : Int) : (s.freeOp o c).2.2.W.length = s.W.length := by unfold SS.freeOp; split; rfl; split <;> simp
theorem SS.slash_len (s : SS) (k f p : Int) : (s.slashOp k f p).2.2.W.length = s.W.length := by
  unfold SS.slashOp
  cases s.pool k with
  | none => rfl
  | some q => simp only; split <;> simp
theorem SS.setW_len (s : SS) (k c : Int) (q : QS) : (s.setW k c q).W.length ≤ s.W.length + 1 := by unfold SS.setW; simp only; split <;> simp
theorem SS.leave_len (s : SS) (o k n c : Int) : (s.leaveOp o k n c).2.W.length ≤ s.W.length + 1 := by
  unfold SS.leaveOp
  cases s.pool k with
  | none => simp
  | some q =>
    simp only
    split
    · simp
    · split
      · simp
      · split
        · simp
        · exact SS.setW_len _ _ _ _

theorem staked_facts : ∃ s1 s2 s3 : SS, SS.new.regOp 1 = (0, s1) ∧ s1.joinOp 4 1 10 = (0, s2) ∧ s2.leaveOp 4 1 3 5 = (0, s3) ∧ s3.staked 1 = 7 ∧ s3.total = 10 ∧ s3.waits 4 1 5 = 3 ∧ s3.W.length ≤ 8000 :=
  ⟨_, _, _, rfl, rfl, rfl, by rfl, by rfl, by rfl, by decide⟩
end Go.Proofs.YtajnfkmkombajabGreatDoor
namespace Go.Proofs.YtajnfkmkombajabGreatDoor
open Go.RowKit Go.Maps

section
variable {sb n : Nat} {F : Nat → Prop} {s : SS} {w : World}
theorem st_Is (k : Int) (h : StakesAt sb F n s w) : Calls Tryz.prog 29 #[.pointer (some ⟨sb, 0, none⟩), .int .i64 k] w fun e w' => e = .returned (.bool (s.is k)) ∧ w = w' := by
  obtain ⟨L, hL, _⟩ := h; exact stake_Is sb L n s k w hL
theorem st_Staked (k : Int) (h : StakesAt sb F n s w) : Calls Tryz.prog 34 #[.pointer (some ⟨sb, 0, none⟩), .int .i64 k] w fun e w' => e = .returned (.int .i64 (s.staked k)) ∧ w = w' := by
  obtain ⟨L, hL, _⟩ := h; exact stake_Staked sb L n s k w hL
theorem st_Waits (A : Nat → Addr) (S : List Nat) (o k c : Int) (h : StakesAt sb F n s w) (hE : Errs A S w) (h2 : 2 ∈ S) (ho : (Lit.int .i64 o).wf = true) (hc : (Lit.int .i64 c).wf = true) :
    Calls Tryz.prog 62 #[.pointer (some ⟨sb, 0, none⟩), .int .i64 o, .int .i64 k, .int .i64 c] w fun e w' => e = .returned (.int .i64 (s.waits o k c)) ∧ Dr w w' := by
  obtain ⟨L, hL, _⟩ := h; exact stake_Waits A S sb n L s o k c w hL hE h2 ho hc
theorem st_Value (A : Nat → Addr) (S : List Nat) (o k : Int) (h : StakesAt sb F n s w) (hE : Errs A S w) (h2 : 2 ∈ S) (ho : (Lit.int .i64 o).wf = true) :
    Calls Tryz.prog 60 #[.pointer (some ⟨sb, 0, none⟩), .int .i64 o, .int .i64 k] w fun e w' => e = .returned (.int .i64 (s.value o k)) ∧ Dr w w' := by
  obtain ⟨L, hL, _⟩ := h; exact stake_Value A S sb L n s o k w hL hE h2 ho
end

end Go.Proofs.YtajnfkmkombajabGreatDoor
namespace Go.Proofs.YtajnfkmkombajabGreatDoor
open Go.RowKit

/-- v is nil, or lies in a block from base on that may be written whole; it reads as xs -/
def OwnSl (base : Nat) (e : TypeId) (v : Value) (xs : List Value) (w : World) : Prop :=
  (v = .slice none 0 0 ∧ xs = []) ∨
  ∃ g off cap cur, v = .slice (some ⟨g, off, none⟩) xs.length cap ∧ base ≤ g ∧ w.heap[g]? = some (.cells cur e (0, 0)) ∧ xs.length ≤ cap ∧ cap ≤ maxLen ∧ off + cap ≤ cur.size ∧ (cur.toList.drop off).take xs.length = xs

section
variable {base : Nat} {e : TypeId} {v : Value} {xs : List Value} {w w' : World}

theorem OwnSl.nil (base : Nat) (e : TypeId) (w : World) : OwnSl base e (.slice none 0 0) [] w := .inl ⟨rfl, rfl⟩
theorem OwnSl.shape (h : OwnSl base e v xs w) : ∃ ao cap, v = .slice ao xs.length cap ∧ xs.length ≤ cap ∧ cap ≤ maxLen := by
  rcases h with ⟨rfl, rfl⟩ | ⟨g, off, cap, cur, rfl, _, _, h1, h2, _⟩
  · exact ⟨none, 0, rfl, Nat.le_refl _, by simp⟩
  · exact ⟨_, cap, rfl, h1, h2⟩
theorem OwnSl.blk (h : OwnSl base e v xs w) {k : Nat} (hk : v.ownBlock = some k) : base ≤ k ∧ k < w.heap.size := by
  rcases h with ⟨rfl, _⟩ | ⟨g, off, cap, cur, rfl, hb, hg, _⟩
  · cases hk
  · cases hk; exact ⟨hb, lt_of_block hg⟩
theorem OwnSl.kept (h : OwnSl base e v xs w) (hk : ∀ g, v.ownBlock = some g → w'.heap[g]? = w.heap[g]?) : OwnSl base e v xs w' := by
  rcases h with h | ⟨g, off, cap, cur, rfl, hb, hg, r⟩
  · exact .inl h
  · exact .inr ⟨g, off, cap, cur, rfl, hb, by rw [hk g rfl]; exact hg, r⟩
theorem OwnSl.keep {F : Nat → Prop} (h : OwnSl base e v xs w) (k : Keep F w w') (hF : ∀ g, v.ownBlock = some g → ¬ F g) : OwnSl base e v xs w' :=
  h.kept fun g hg => k.block g (h.blk hg).2 (hF g hg)
theorem OwnSl.alloc (h : OwnSl base e v xs w) (o : Obj) : OwnSl base e v xs (w.alloc o) := h.kept fun g hg => Below.heap_alloc _ _ _ (h.blk hg).2
theorem OwnSl.setCell_other (h : OwnSl base e v xs w) {a : Addr} (ha : v.ownBlock ≠ some a.block) (u : Value) : OwnSl base e v xs (w.setCell a u) :=
  h.kept fun g hg => Below.heap_setCell _ _ _ _ (by rintro rfl; exact ha hg)
theorem OwnSl.grown {row : Option Nat} (h : OwnSl base e v xs w) (hg : w.grownBy w' row) (hne : ∀ g, v.ownBlock = some g → some g ≠ row) : OwnSl base e v xs w' :=
  h.kept fun g hv => hg.block g (h.blk hv).2 (hne g hv)
theorem OwnSl.mono {base' : Nat} (h : OwnSl base e v xs w) (hb : base' ≤ base) : OwnSl base' e v xs w := by
  rcases h with h | ⟨g, off, cap, cur, rfl, h1, r⟩
  · exact .inl h
  · exact .inr ⟨g, off, cap, cur, rfl, by omega, r⟩

theorem OwnSl.of_own {n : Nat} (h : w.ownsRow base e 1 v n xs) : OwnSl base e v xs w := by
  have hl : xs.length = n := by have := h.1; omega
  subst hl
  rcases h.2 with ⟨hv, hn⟩ | ⟨g, cap, cur, hv, hb, hg, hnc, hcm, hcs, ht⟩
  · exact .inl ⟨hv, List.eq_nil_of_length_eq_zero hn⟩
  · exact .inr ⟨g, 0, cap, cur, hv, hb, hg, hnc, hcm, by omega, by simpa using ht⟩

theorem sl_cell {cur : Array Value} {off i n : Nat} {xs : List Value} (h : (cur.toList.drop off).take n = xs) (hi : i < n) : cur[off + i]? = xs[i]? := by
  rw [← h, List.getElem?_take, if_pos hi, List.getElem?_drop]; simp

/-- its cells -/
theorem OwnSl.cells (h : OwnSl base e v xs w) (h0 : 0 < xs.length) : ∃ g off cap, v = .slice (some ⟨g, off, none⟩) xs.length cap ∧ base ≤ g ∧ g < w.heap.size ∧ xs.length ≤ cap ∧ cap ≤ maxLen ∧ ∀ i, i < xs.length → w.cell? ⟨g, off + i, none⟩ = xs[i]? := by
  rcases h with ⟨_, rfl⟩ | ⟨g, off, cap, cur, rfl, hb, hg, h1, h2, h3, h4⟩
  · simp at h0
  · refine ⟨g, off, cap, rfl, hb, lt_of_block hg, h1, h2, fun i hi => ?_⟩
    rw [← sl_cell h4 hi]; simp [World.cell?, hg]

theorem tail_step {cur : Array Value} {off cap : Nat} {x : Value} {xs : List Value} (h1 : xs.length + 1 ≤ cap) (h4 : (cur.toList.drop off).take (xs.length + 1) = x :: xs) : (cur.toList.drop (if cap = 1 then off else off + 1)).take xs.length = xs := by
  have hx : (cur.toList.drop (off + 1)).take xs.length = xs := by
    have := congrArg List.tail h4
    rw [List.tail_cons] at this
    rw [← this]
    cases hd : cur.toList.drop off with
    | nil => rw [hd] at h4; simp at h4
    | cons y ys => rw [← List.tail_drop, hd]; simp
  split
  · have : xs = [] := List.eq_nil_of_length_eq_zero (by omega)
    subst this; simp
  · exact hx

/-- l[1:] -/
theorem OwnSl.tail {P : Program} {t : TypeId} {x : Value} (ht : P.underlying t = some (.slice (P.elem t))) (hsz : ∀ wx : World, (sizeOf (P.elem t)).run P wx = .ok 1 wx) (k : IntKind) (h : OwnSl base e v (x :: xs) w) :
    ∃ v', (∀ wx : World, (Instr.slice t v (some (.int k 1)) none none).run P wx = .ok v' wx) ∧ (∀ w2 : World, OwnSl base e v (x :: xs) w2 → OwnSl base e v' xs w2) ∧ (∃ ao cap, v' = .slice ao xs.length cap) ∧ v'.ownBlock = v.ownBlock := by
  rcases h with ⟨_, h⟩ | ⟨g, off, cap, cur, rfl, hb, hg, h1, h2, h3, h4⟩
  · cases h
  · simp only [List.length_cons] at h1 h3 h4 ⊢
    refine ⟨.slice (some (if cap = 1 then ⟨g, off, none⟩ else ⟨g, off + 1, none⟩)) xs.length (cap - 1), fun wx => ?_, fun w2 h' => ?_, ⟨_, _, rfl⟩, ?_⟩
    · rw [run_slice_l wx t _ _ _ ht k 1 (by omega) (by omega), hsz]
      simp only [Result.andThen, sliced, Int.toNat_one, Nat.one_mul, Nat.add_sub_cancel]
      by_cases hc : cap = 1
      · simp [hc]
      · simp [hc, Addr.add]
    · clear hg h2 h3 h4
      rcases h' with ⟨_, h⟩ | ⟨g', off', cap', cur', hv, hb', hg, h1', h2, h3, h4⟩
      · cases h
      · cases hv
        simp only [List.length_cons] at h4
        refine .inr ⟨g, if cap = 1 then off else off + 1, cap - 1, cur', ?_, hb, hg, by omega, by omega, by split <;> omega, tail_step h1 h4⟩
        split <;> simp
    · split <;> rfl

/-- one element is appended -/
theorem run_append_sl {P : Program} (w : World) (t ty : TypeId) (base : Nat) (e : TypeId) (i : TypeInfo) (z : Value) (bytes : Nat) (ht : P.underlying t = some (.slice e)) (hi : P.info? e = some i) (hz : i.zero = some z)
    (hsize : i.size = 1) (hby : i.bytes = bytes) (hzs : z.cells.size = 1)
    (v : Value) (xs : List Value) (hown : OwnSl base e v xs w) (ad : Addr) (x : Value) (hc : ∀ j u, [x][j]? = some u → w.cell? (ad.add j) = some u) (h1 : ∀ u ∈ [x], u.oneCell' = true)
    (h63 : xs.length + 1 ≤ maxLen) (hbytes : (xs.length + 1) * bytes ≤ 140737488355328) (hbase : base ≤ w.heap.size) :
    ∃ v' w', (Builtin.append_ #[t, t] ty #[v, .slice (some ad) 1 1]).run P w = .ok v' w' ∧ OwnSl base e v' (xs ++ [x]) w' ∧ w.grownBy w' v.ownBlock ∧ (v'.ownBlock = v.ownBlock ∨ v'.ownBlock = some w.heap.size) := by
  rcases hown with ⟨rfl, rfl⟩ | ⟨g, off, cap, cur, rfl, hb, hg, hl1, hl2, hl3, hl4⟩
  · obtain ⟨v', w', hr, h2, h3, _, h5⟩ := run_append_own_at (P := P) w base t ty e i z 1 bytes ht hi hz hsize hby hzs (by decide) (.slice none 0 0) 0 [] (World.ownsRow_nil _ _ _ _) ad 1 1 [x] rfl hc h1 h63 hbytes hbase
    exact ⟨v', w', hr, OwnSl.of_own h2, h3, h5⟩
  · by_cases hroom : xs.length + 1 ≤ cap
    · have hlt := lt_of_block hg
      have hr := run_append_room_cells (P := P) w t ty e i ht hi g off xs.length cap ad 1 1 [x] (by simp [hsize]) hc h1 hroom
        (fun j hj => by simp at hj; subst hj; simp [World.cell?, hg, hsize]; omega) (fun j hj => by simp [World.frozen?, hg])
      refine ⟨_, _, hr, ?_, ?_, .inl rfl⟩
      · simp only [World.setCells, hsize, Nat.mul_one]
        have hgs : (w.setCell ⟨g, off + xs.length, none⟩ x).heap[g]? = some (.cells (cur.setIfInBounds (off + xs.length) x) e (0, 0)) := by
          have h' : w.heap[g] = .cells cur e (0, 0) := by simpa [Array.getElem?_eq_getElem hlt] using hg
          show (w.heap.modify g _)[g]? = _
          rw [Array.getElem?_eq_getElem (by simpa using hlt), Array.getElem_modify_self, h']
          simp
        refine .inr ⟨g, off, cap, _, by simp, hb, hgs, by simp; omega, hl2, by simpa using hl3, ?_⟩
        apply List.ext_getElem?
        intro k
        rw [List.getElem?_take]
        split
        · next hk =>
          rw [List.getElem?_drop, Array.getElem?_toList, Array.getElem?_setIfInBounds]
          simp only [List.length_append, List.length_cons, List.length_nil, Nat.zero_add] at hk
          by_cases hkk : k = xs.length
          · subst hkk
            rw [if_pos rfl, if_pos (by omega)]; simp
          · rw [if_neg (by omega), sl_cell hl4 (by omega), List.getElem?_append_left (by omega)]
        · next hk =>
          rw [List.getElem?_eq_none (by omega)]
      · simp only [World.setCells, hsize, Nat.mul_one]
        exact ⟨rfl, rfl, rfl, by simp [World.setCell], fun k hk hne => Below.heap_setCell _ _ _ _ (fun e => hne (by simp [Value.ownBlock, e]))⟩
    · obtain ⟨v', w', hr, h2, h3⟩ := run_append_arg_grows (P := P) w t ty e i z 1 bytes ht hi hz hsize hby hzs (by decide) ⟨g, off, none⟩ xs.length cap xs (by simp)
        (fun j u hj => by
          rw [Addr.add_lit]
          have hj' : j < xs.length := (List.getElem?_eq_some_iff.1 hj).1
          rw [← hj, ← sl_cell hl4 hj']; simp [World.cell?, hg]) ad 1 1 [x] rfl hc (by omega) h63 hbytes
      have hb2 := (OwnSl.of_own h2)
      have hg2 : w.grownBy w' (Value.ownBlock (.slice (some ⟨g, off, none⟩) xs.length cap)) := ⟨h3.os, h3.tape, h3.output, h3.size, fun k hk _ => h3.block k hk (by simp)⟩
      have hr' := run_append_grow (P := P) w t ty e i z ht hi hz ⟨g, off, none⟩ xs.length cap xs (by simp [hsize]) (fun j u hj => by
          rw [Addr.add_lit]
          have hj' : j < xs.length := (List.getElem?_eq_some_iff.1 hj).1
          rw [← hj, ← sl_cell hl4 hj']; simp [World.cell?, hg]) ad 1 1 [x] (by simp [hsize]) hc (by omega) (by simp only [maxLen] at h63; omega) (growslice_fits (by omega) (by rw [hby]; exact hbytes))
      rw [hr'] at hr
      have hv : v' = .slice (some ⟨w.heap.size, 0, none⟩) (xs.length + 1) (grownCap w (xs.length + 1) cap e) := by cases hr; rfl
      exact ⟨v', w', by rw [hr']; exact hr, hb2.mono hbase, hg2, .inr (by rw [hv]; rfl)⟩

/-- At the operation's list: for the walk. -/
theorem wpList_append_sl {P : Program} (w : World) {ops : Array Oper} {rest : List Oper} {o : Oper} {a : Act} {Q : Exit → Act → World → Prop} (hgd : o.guard = none) (s x : Operand) (t : TypeId)
    (ho : o.op = .call { callee := .builtin .append, args := #[s, x], argTypes := #[t, t] })
    (base : Nat) (e : TypeId) (i : TypeInfo) (z : Value) (bytes : Nat) (ht : P.underlying t = some (.slice e)) (hi : P.info? e = some i) (hz : i.zero = some z)
    (hsize : i.size = 1) (hby : i.bytes = bytes) (hzs : z.cells.size = 1)
    (v : Value) (xs : List Value) (hs : a.eval s = v) (hown : OwnSl base e v xs w)
    (ad : Addr) (u : Value) (hx : a.eval x = .slice (some ad) 1 1) (hc : ∀ j y, [u][j]? = some y → w.cell? (ad.add j) = some y) (h1 : ∀ y ∈ [u], y.oneCell' = true)
    (h63 : xs.length + 1 ≤ maxLen) (hbytes : (xs.length + 1) * bytes ≤ 140737488355328) (hbase : base ≤ w.heap.size)
    (h : ∀ v' w', OwnSl base e v' (xs ++ [u]) w' → w.grownBy w' v.ownBlock → (v'.ownBlock = v.ownBlock ∨ v'.ownBlock = some w.heap.size) → wpList P ops Q rest (a.put o.dst v') w') : wpList P ops Q (o :: rest) a w := by
  refine wpList_plain hgd fun K hK => ?_
  obtain ⟨v', w', hr, h2, h3, h4⟩ := run_append_sl (P := P) w t o.type base e i z bytes ht hi hz hsize hby hzs v xs hown ad u hc h1 h63 hbytes hbase
  unfold Oper.wp execOp
  simp only [ho, resolve, invoke, builtin, Sem.run_bind, Sem.run_pure, Result.andThen_ok, List.map_toArray, List.map_cons, List.map_nil, hs, hx, hr]
  exact hK _ _ (h v' w' h2 h3 h4)

/-- At a step of a region that draws its order: for go_region_law. -/
theorem step_append_sl {P : Program} {ops : Array Oper} {o : Oper} {a : Act} {w : World} {K : Act → World → Prop} {Q : Exit → Act → World → Prop} {E : Prop} (hgd : o.guard = none) (s x : Operand) (t : TypeId)
    (ho : o.op = .call { callee := .builtin .append, args := #[s, x], argTypes := #[t, t] })
    (base : Nat) (e : TypeId) (i : TypeInfo) (z : Value) (bytes : Nat) (ht : P.underlying t = some (.slice e)) (hi : P.info? e = some i) (hz : i.zero = some z)
    (hsize : i.size = 1) (hby : i.bytes = bytes) (hzs : z.cells.size = 1)
    (v : Value) (xs : List Value) (hs : a.eval s = v) (hown : OwnSl base e v xs w)
    (ad : Addr) (u : Value) (hx : a.eval x = .slice (some ad) 1 1) (hc : ∀ j y, [u][j]? = some y → w.cell? (ad.add j) = some y) (h1 : ∀ y ∈ [u], y.oneCell' = true)
    (h63 : xs.length + 1 ≤ maxLen) (hbytes : (xs.length + 1) * bytes ≤ 140737488355328) (hbase : base ≤ w.heap.size)
    (h : ∀ v' w', OwnSl base e v' (xs ++ [u]) w' → w.grownBy w' v.ownBlock → (v'.ownBlock = v.ownBlock ∨ v'.ownBlock = some w.heap.size) → K (a.put o.dst v') w') :
    if Region.wanted o (yielded ops a.tmps) = true then Oper.wp P o a w K Q else E := by
  have hw : Region.wanted o (yielded ops a.tmps) = true := by simp [Region.wanted, hgd]
  rw [if_pos hw]
  obtain ⟨v', w', hr, h2, h3, h4⟩ := run_append_sl (P := P) w t o.type base e i z bytes ht hi hz hsize hby hzs v xs hown ad u hc h1 h63 hbytes hbase
  unfold Oper.wp execOp
  simp only [ho, resolve, invoke, builtin, Sem.run_bind, Sem.run_pure, Result.andThen_ok, List.map_toArray, List.map_cons, List.map_nil, hs, hx, hr]
  exact h v' w' h2 h3 h4
end
end Go.Proofs.YtajnfkmkombajabGreatDoor
