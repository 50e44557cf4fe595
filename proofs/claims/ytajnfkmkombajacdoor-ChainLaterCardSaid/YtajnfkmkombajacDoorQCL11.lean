/-
  The walk of stake.Leave.
  Contract: stake.Waits; stakes in memory that is new; the closed fact of the stakes' laws.
  The closed fact of the stakes' laws.
  Plain: bends. No program in sight.
  Plain: what package issue reckons. No program in sight.
-/
import Derived.Test.YtajnfkmkombajacDoorQCL07
import Derived.Test.YtajnfkmkombajacDoorQCL10
import Derived.Test.YtajnfkmkombajacDoorQCL01
set_option linter.unusedVariables false
set_option linter.unusedSimpArgs false
namespace Go.Proofs.YtajnfkmkombajacDoor
open Go.RowKit Go.Maps

/-- behind the copy -/
structure CopyW (w : World) (m : Nat) (q : QS) (wx : World) : Prop where
  below : Below w.heap.size w wx
  pool : PoolAt (w.heap.size + 1) w.heap.size m q wx
  size : wx.heap.size = w.heap.size + 2

set_option maxRecDepth 8000 in
set_option maxHeartbeats 2000000 in
theorem stake_Leave_none (A : Nat → Addr) (S : List Nat) (sb : Nat) (F : Nat → Prop) (m : Nat) (s : SS) (L : Lay) (o n c : Int) (j : Nat) (q : QS) (w : World) (hL : StakesL sb L m s w) (hF : ∀ b, L.role b ≠ .none → F b) (hlt : ∀ b, F b → b < w.heap.size) (hj : j < 3) (hi : s.is j = true) (hq : s.pool j = some q) (hg : s.get j none = some q)
    (hE : Errs A S w) (h2 : 2 ∈ S) (h6 : 6 ∈ S) (h7 : 7 ∈ S) (h8 : 8 ∈ S) (hm : m + 1 < maxLen) (hcw : (Lit.int .i64 c).wf = true) (hcy : cycleC c = 0) (hf : s.find j c = none) :
    Calls Tryd.prog 9 #[.pointer (some ⟨sb, 0, none⟩), .int .i64 o, .int .i64 j, .int .i64 n, .int .i64 c] w fun e w' => e = .returned (ev A (s.leaveOp o j n c).1) ∧ StakesP sb F (m + 2) (s.leaveOp o j n c).2 w w' := by
  have hSA : StakesAt sb F m s w := ⟨L, hL, hF, hlt⟩
  have HS := Lib.hid (fun w' hb => (StakesP.of_below (w' := w') hSA hb).mono (show m ≤ m + 2 by omega))
  have HB := Lib.hid (stake_baker_yes sb L m s j w hL hj hi)
  have HC := Lib.hid (stake_cycleError A S c w hE h2)
  have ec : ev A (cycleC c) = .nilIface := by rw [hcy]; rfl
  have HCP := Lib.hid (pool_Copy _ _ m q w.drew ((hL.poo j none q hj hg).1.drewN 1))
  obtain ⟨c0, c1⟩ := hL.baker hj hi
  have HE := Lib.hid hE
  have hl0 := hL.look hj hi c hcw w.drew rfl
  have hbb : L.bb j < w.heap.size := hlt _ (hF _ (by rw [(hL.bak j hj hi).2]; simp))
  have hwm : L.wm j < w.heap.size := hlt _ (hF _ (by rw [(hL.wai j hj hi).1]; simp))
  generalize hWV : (if (s.find j c).isSome then Value.pointer (some ⟨L.pb j (some c), 0, none⟩) else .pointer none) = wv at hl0
  have HX : Hid (∀ wx : World, Below w.heap.size w wx → wx.cell? ⟨L.bb j, 0, none⟩ = some (.pointer (some ⟨L.pb j none, 0, none⟩)) ∧ wx.cell? ⟨L.bb j, 1, none⟩ = some (.map (some (L.wm j))) ∧ (Instr.lookup 53 (.map (some (L.wm j))) (.int .i64 c) false).run Tryd.prog wx = .ok wv wx) :=
    Lib.hid (fun wx hb => ⟨by rw [hb.cell (p := ⟨L.bb j, 0, none⟩) hbb]; exact c0, by rw [hb.cell (p := ⟨L.bb j, 1, none⟩) hbb]; exact c1, by have := hL.look hj hi c hcw wx (hb.block _ hwm); rw [hWV] at this; exact this⟩)
  obtain rfl : wv = .pointer none := by rw [← hWV, hf]; rfl
  have HTK := Lib.hid (fun wx hE hp => pool_Take A S (w.heap.size + 1) w.heap.size m q o n wx hE h2 h6 hp (by omega))
  have HJN := Lib.hid (fun b mb wx hE hp => pool_Join A S b mb 0 QS.new o n wx hE h2 h7 h8 hp (by unfold maxLen; omega))
  have HW := Lib.hid (show (∃ k, (q.takeOp o n).1 = k ∧ k ≠ 0 ∧ s.leaveOp o j n c = (k, s)) ∨ ((q.takeOp o n).1 = 0 ∧ ∃ k, (QS.new.joinOp o n).1 = k ∧ k ≠ 0 ∧ s.leaveOp o j n c = (k, s)) ∨ ((q.takeOp o n).1 = 0 ∧ (QS.new.joinOp o n).1 = 0 ∧ s.leaveOp o j n c = (0, (s.setP j (q.takeOp o n).2).setW j c (QS.new.joinOp o n).2)) by
    have hv : (s.find j c).getD QS.new = QS.new := by rw [hf]; rfl
    by_cases ht : (q.takeOp o n).1 = 0
    · by_cases hjn : (QS.new.joinOp o n).1 = 0
      · exact .inr (.inr ⟨ht, hjn, leave_in hq hcy ht hv hjn⟩)
      · exact .inr (.inl ⟨ht, _, rfl, hjn, leave_join hq hcy ht hv hjn⟩)
    · exact .inl ⟨_, rfl, ht, leave_take hq hcy ht⟩)
  have HL := Lib.hid (fun q' v' w4 pb mb wb wx hs M r1 => hL.leaves (q' := q') (v' := v') (w4 := w4) (pb := pb) (mb := mb) (wb := wb) (wx := wx) hF hlt hj hi hg (c := c) hs (Nat.le_succ m) M r1)
  have HOK := Lib.hid (SS.leaveOp_ok hL.ok o j n c)
  clear hWV hSA hL hF hlt hE hq hg hf hi
  go_enter Tryd.func9, Tryd.ntmps9
  go_upto_region 7 with (first
    | (go_at_call 24; refine HB.out.mono ?_; rintro e w' ⟨rfl, rfl⟩)
    | (go_at_call 26; refine HC.out.mono ?_; rintro e w' ⟨rfl, rfl⟩; rw [ec]))
  go_cut [14, 15] (fun p x wx => p = .pointer (some ⟨w.heap.size + 1, 0, none⟩) ∧ x = .pointer none ∧ CopyW w m q wx)
  case first =>
    go_region_with (go_at_call 27; refine HCP.out.mono ?_; rintro e w1 ⟨rfl, hb1, hp1, hs1⟩; have hb1' : Below w.heap.size w w1 := (⟨hb1.os, hb1.tape, hb1.output, hb1.size, hb1.block⟩); obtain ⟨x0, x1, x2⟩ := HX.out w1 hb1')
    all_goals go_wp2_with fail
    all_goals go_meet
    all_goals (case rel => exact ⟨rfl, rfl, hb1', hp1, hs1⟩)
  case rest =>
    obtain ⟨rfl, rfl, hcut⟩ := hcut
    have HK := Lib.hid hcut; clear hcut
    have HEc := Lib.hid (HE.out.below HK.out.below)
    rcases HW.out with ⟨k, ht, hk, E⟩ | ⟨ht, k, hjn, hk, E⟩ | ⟨ht, hjn, E⟩
    · have et : ev A (q.takeOp o n).1 = .iface 181 (.pointer (some (A k))) := by rw [ht]; exact ev_some A hk
      have E1 := Lib.hid E; clear E ht
      go_wp2_with (first
        | (go_at_call 23; refine (pool_New _).mono ?_; rintro e w2 ⟨mb2, rfl, hb2, hmb2, hp2⟩; have HB2 := Lib.hid hb2; have HP2 := Lib.hid hp2; clear hb2 hp2)
        | (go_at_call 28; refine (HTK.out _ (HEc.out.below HB2.out) (HK.out.pool.keep (Keep.of_below (F := fun _ => False) HB2.out) id id)).mono ?_; rintro e w3 ⟨rfl, h3⟩; rw [et]))
      go_ret
      rw [E1.out]
      exact ⟨by rw [ev_some A hk]; rfl, HS.out _ (Keep.after (btrans HK.out.below HB2.out) h3.1 (fun i hi => by rcases hi with rfl | rfl <;> omega))⟩
    · have et : ev A (q.takeOp o n).1 = .nilIface := by rw [ht]; rfl
      have ej : ev A (QS.new.joinOp o n).1 = .iface 181 (.pointer (some (A k))) := by rw [hjn]; exact ev_some A hk
      have E1 := Lib.hid E; clear E ht hjn
      go_wp2_with (first
        | (go_at_call 23; refine (pool_New _).mono ?_; rintro e w2 ⟨mb2, rfl, hb2, hmb2, hp2⟩; have HB2 := Lib.hid hb2; have HP2 := Lib.hid hp2; clear hb2 hp2)
        | (go_at_call 28; refine (HTK.out _ (HEc.out.below HB2.out) (HK.out.pool.keep (Keep.of_below (F := fun _ => False) HB2.out) id id)).mono ?_; rintro e w3 ⟨rfl, h3⟩; rw [et]; have H3 := Lib.hid h3; have HB3 := Lib.hid (Keep.after (btrans HK.out.below HB2.out) h3.1 (fun i hi => by rcases hi with rfl | rfl <;> omega)); clear h3; have HP3 := Lib.hid (HP2.out.keep H3.out.1 (by have := HK.out.size; omega) (by have := HK.out.size; omega)))
        | (go_at_call 25; refine (HJN.out _ _ _ (HE.out.below HB3.out) HP3.out).mono ?_; rintro e w4 ⟨rfl, h4⟩; rw [ej]))
      go_ret
      rw [E1.out]
      exact ⟨by rw [ev_some A hk]; rfl, HS.out _ (Keep.after HB3.out h4.1 (fun i hi => by have := HK.out.size; rcases hi with rfl | rfl <;> omega))⟩
    · have et : ev A (q.takeOp o n).1 = .nilIface := by rw [ht]; rfl
      have ej : ev A (QS.new.joinOp o n).1 = .nilIface := by rw [hjn]; rfl
      have hok := HOK.out; rw [E] at hok
      have HOK2 := Lib.hid hok
      have E1 := Lib.hid E; clear E ht hjn hok
      go_wp2_with (first
        | (go_at_call 23; refine (pool_New _).mono ?_; rintro e w2 ⟨mb2, rfl, hb2, hmb2, hp2⟩; have HB2 := Lib.hid hb2; have HP2 := Lib.hid hp2; clear hb2 hp2)
        | (go_at_call 28; refine (HTK.out _ (HEc.out.below HB2.out) (HK.out.pool.keep (Keep.of_below (F := fun _ => False) HB2.out) id id)).mono ?_; rintro e w3 ⟨rfl, h3⟩; rw [et]; have H3 := Lib.hid h3; have HB3 := Lib.hid (Keep.after (btrans HK.out.below HB2.out) h3.1 (fun i hi => by rcases hi with rfl | rfl <;> omega)); clear h3; have HP3 := Lib.hid (HP2.out.keep H3.out.1 (by have := HK.out.size; omega) (by have := HK.out.size; omega)))
        | (go_at_call 25; refine (HJN.out _ _ _ (HE.out.below HB3.out) HP3.out).mono ?_; rintro e w4 ⟨rfl, h4⟩; rw [ej];
            have HB4 := Lib.hid (Keep.after HB3.out h4.1 (fun i hi => by have := HK.out.size; rcases hi with rfl | rfl <;> omega));
            have hM : LeaveM w w4 L j c (m + 1) (w.heap.size + 1) w.heap.size (wc.heap.size + 1) mb2 (q.takeOp o n).2 (QS.new.joinOp o n).2 := (⟨Keep.of_below HB4.out, H3.out.2.keep h4.1 (by have := HK.out.size; omega) (by have := HK.out.size; omega), h4.2.mono (by omega), by omega, by omega, by have := HK.out.size; omega, by have := HK.out.size; omega, by have := HK.out.size; omega, by have := HK.out.size; omega⟩);
            obtain ⟨D, o5, x0, x1, x2, hend⟩ := HL.out _ _ _ _ _ _ _ HOK2.out hM (.inl (by have := HK.out.size; omega));
            obtain ⟨v0, st, w6, hme, hmt, hst⟩ := own_entry o5 keyI Tryd.underlying53 hm ptrZero (keyOf_int_mk Tryd.underlying3 hcw);
            obtain ⟨w7, hes, o7, ht7⟩ := hst (blkElem_mk (wc.heap.size + 1));
            have HEND := Lib.hid (hend w7 ht7 o7);
            clear hend o7 ht7 hst hmt o5 hM h4))
      go_ret
      rw [E1.out]
      exact ⟨rfl, HEND.out⟩
set_option maxRecDepth 8000 in
set_option maxHeartbeats 2000000 in
theorem stake_Leave_some (A : Nat → Addr) (S : List Nat) (sb : Nat) (F : Nat → Prop) (m : Nat) (s : SS) (L : Lay) (o n c : Int) (j : Nat) (q : QS) (w : World) (hL : StakesL sb L m s w) (hF : ∀ b, L.role b ≠ .none → F b) (hlt : ∀ b, F b → b < w.heap.size) (hj : j < 3) (hi : s.is j = true) (hq : s.pool j = some q) (hg : s.get j none = some q)
    (hE : Errs A S w) (h2 : 2 ∈ S) (h6 : 6 ∈ S) (h7 : 7 ∈ S) (h8 : 8 ∈ S) (hm : m + 1 < maxLen) (hcw : (Lit.int .i64 c).wf = true) (hcy : cycleC c = 0) (v : QS) (hf : s.find j c = some v) :
    Calls Tryd.prog 9 #[.pointer (some ⟨sb, 0, none⟩), .int .i64 o, .int .i64 j, .int .i64 n, .int .i64 c] w fun e w' => e = .returned (ev A (s.leaveOp o j n c).1) ∧ StakesP sb F (m + 2) (s.leaveOp o j n c).2 w w' := by
  have hSA : StakesAt sb F m s w := ⟨L, hL, hF, hlt⟩
  have HS := Lib.hid (fun w' hb => (StakesP.of_below (w' := w') hSA hb).mono (show m ≤ m + 2 by omega))
  have HB := Lib.hid (stake_baker_yes sb L m s j w hL hj hi)
  have HC := Lib.hid (stake_cycleError A S c w hE h2)
  have ec : ev A (cycleC c) = .nilIface := by rw [hcy]; rfl
  have HCP := Lib.hid (pool_Copy _ _ m q w.drew ((hL.poo j none q hj hg).1.drewN 1))
  obtain ⟨c0, c1⟩ := hL.baker hj hi
  have HE := Lib.hid hE
  have hl0 := hL.look hj hi c hcw w.drew rfl
  have hbb : L.bb j < w.heap.size := hlt _ (hF _ (by rw [(hL.bak j hj hi).2]; simp))
  have hwm : L.wm j < w.heap.size := hlt _ (hF _ (by rw [(hL.wai j hj hi).1]; simp))
  generalize hWV : (if (s.find j c).isSome then Value.pointer (some ⟨L.pb j (some c), 0, none⟩) else .pointer none) = wv at hl0
  have HX : Hid (∀ wx : World, Below w.heap.size w wx → wx.cell? ⟨L.bb j, 0, none⟩ = some (.pointer (some ⟨L.pb j none, 0, none⟩)) ∧ wx.cell? ⟨L.bb j, 1, none⟩ = some (.map (some (L.wm j))) ∧ (Instr.lookup 53 (.map (some (L.wm j))) (.int .i64 c) false).run Tryd.prog wx = .ok wv wx) :=
    Lib.hid (fun wx hb => ⟨by rw [hb.cell (p := ⟨L.bb j, 0, none⟩) hbb]; exact c0, by rw [hb.cell (p := ⟨L.bb j, 1, none⟩) hbb]; exact c1, by have := hL.look hj hi c hcw wx (hb.block _ hwm); rw [hWV] at this; exact this⟩)
  obtain rfl : wv = .pointer (some ⟨L.pb j (some c), 0, none⟩) := by rw [← hWV, hf]; rfl
  obtain ⟨hpv, rpv, rmv⟩ := hL.poo j (some c) v hj hf
  have lpv : L.pb j (some c) < w.heap.size ∧ L.pm j (some c) < w.heap.size := hpv.lt
  have HTK := Lib.hid (fun wx hE hp => pool_Take A S (w.heap.size + 1) w.heap.size m q o n wx hE h2 h6 hp (by omega))
  have HJN := Lib.hid (fun b mb wx hE hp => pool_Join A S b mb m v o n wx hE h2 h7 h8 hp (by omega))
  have HW := Lib.hid (show (∃ k, (q.takeOp o n).1 = k ∧ k ≠ 0 ∧ s.leaveOp o j n c = (k, s)) ∨ ((q.takeOp o n).1 = 0 ∧ ∃ k, (v.joinOp o n).1 = k ∧ k ≠ 0 ∧ s.leaveOp o j n c = (k, s)) ∨ ((q.takeOp o n).1 = 0 ∧ (v.joinOp o n).1 = 0 ∧ s.leaveOp o j n c = (0, (s.setP j (q.takeOp o n).2).setW j c (v.joinOp o n).2)) by
    have hv : (s.find j c).getD QS.new = v := by rw [hf]; rfl
    by_cases ht : (q.takeOp o n).1 = 0
    · by_cases hjn : (v.joinOp o n).1 = 0
      · exact .inr (.inr ⟨ht, hjn, leave_in hq hcy ht hv hjn⟩)
      · exact .inr (.inl ⟨ht, _, rfl, hjn, leave_join hq hcy ht hv hjn⟩)
    · exact .inl ⟨_, rfl, ht, leave_take hq hcy ht⟩)
  have HL := Lib.hid (fun q' v' w4 pb mb hs M => hL.leaves (q' := q') (v' := v') (w4 := w4) (pb := pb) (mb := mb) (wb := L.pb j (some c)) (wx := L.pm j (some c)) hF hlt hj hi hg (c := c) hs (Nat.le_succ m) M (.inr ⟨rfl, rfl, by rw [hf]; rfl⟩))
  have HPV := Lib.hid hpv
  have HU := Lib.hid (fun w3 w4 (hb : Below w.heap.size w w3) (hp : PoolP (L.pb j (some c)) (L.pm j (some c)) (m + 1) v w3 w4) =>
    ((StakesP.after (sb := sb) (n := m + 1) (s := s) hb hlt ((hL.keep (Keep.of_below (F := fun _ => False) hb) (fun _ _ => id)).turned hF (fun b hx => Nat.lt_of_lt_of_le (hlt b hx) hb.size) hj (q := v) (show s.get j (some c) = some v from hf) hp (Nat.le_succ m) hL.ok (fun _ _ => rfl)
      (fun j' oc' _ => ⟨by rintro ⟨rfl, rfl⟩; exact hf, fun _ => rfl⟩))).mono (Nat.le_succ (m + 1)) : StakesP sb F (m + 2) s w w4))
  have HOK := Lib.hid (SS.leaveOp_ok hL.ok o j n c)
  clear hWV hSA hL hF hlt hE hq hg hf hi hpv
  go_enter Tryd.func9, Tryd.ntmps9
  go_upto_region 7 with (first
    | (go_at_call 24; refine HB.out.mono ?_; rintro e w' ⟨rfl, rfl⟩)
    | (go_at_call 26; refine HC.out.mono ?_; rintro e w' ⟨rfl, rfl⟩; rw [ec]))
  go_cut [14, 15] (fun p x wx => p = .pointer (some ⟨w.heap.size + 1, 0, none⟩) ∧ x = .pointer (some ⟨L.pb j (some c), 0, none⟩) ∧ CopyW w m q wx)
  case first =>
    go_region_with (go_at_call 27; refine HCP.out.mono ?_; rintro e w1 ⟨rfl, hb1, hp1, hs1⟩; have hb1' : Below w.heap.size w w1 := (⟨hb1.os, hb1.tape, hb1.output, hb1.size, hb1.block⟩); obtain ⟨x0, x1, x2⟩ := HX.out w1 hb1')
    all_goals go_wp2_with fail
    all_goals go_meet
    all_goals (case rel => exact ⟨rfl, rfl, hb1', hp1, hs1⟩)
  case rest =>
    obtain ⟨rfl, rfl, hcut⟩ := hcut
    have HK := Lib.hid hcut; clear hcut
    have HEc := Lib.hid (HE.out.below HK.out.below)
    rcases HW.out with ⟨k, ht, hk, E⟩ | ⟨ht, k, hjn, hk, E⟩ | ⟨ht, hjn, E⟩
    · have et : ev A (q.takeOp o n).1 = .iface 181 (.pointer (some (A k))) := by rw [ht]; exact ev_some A hk
      have E1 := Lib.hid E; clear E ht
      go_wp2_with (first
        | (go_at_call 28; refine (HTK.out _ HEc.out HK.out.pool).mono ?_; rintro e w3 ⟨rfl, h3⟩; rw [et]))
      go_ret
      rw [E1.out]
      exact ⟨by rw [ev_some A hk]; rfl, HS.out _ (Keep.after HK.out.below h3.1 (fun i hi => by rcases hi with rfl | rfl <;> omega))⟩
    · have et : ev A (q.takeOp o n).1 = .nilIface := by rw [ht]; rfl
      have ej : ev A (v.joinOp o n).1 = .iface 181 (.pointer (some (A k))) := by rw [hjn]; exact ev_some A hk
      have HJC := Lib.hid (show (v.joinOp o n).1 ≠ 0 by rw [hjn]; exact hk)
      have E1 := Lib.hid E; clear E ht hjn
      go_wp2_with (first
        | (go_at_call 28; refine (HTK.out _ HEc.out HK.out.pool).mono ?_; rintro e w3 ⟨rfl, h3⟩; rw [et]; have H3 := Lib.hid h3; have HB3 := Lib.hid (Keep.after HK.out.below h3.1 (fun i hi => by rcases hi with rfl | rfl <;> omega)); clear h3; have HP3 := Lib.hid ((HPV.out.below HK.out.below lpv.1 lpv.2).keep H3.out.1 (by omega) (by omega)))
        | (go_at_call 25; refine (HJN.out _ _ _ (HE.out.below HB3.out) HP3.out).mono ?_; rintro e w4 ⟨rfl, h4⟩; rw [ej]))
      go_ret
      rw [E1.out]
      exact ⟨by rw [ev_some A hk]; rfl, HU.out _ _ HB3.out (by have h5 := h4; rw [(QS.join_total o n).2 (by have := HJC.out; omega)] at h5; exact h5)⟩
    · have et : ev A (q.takeOp o n).1 = .nilIface := by rw [ht]; rfl
      have ej : ev A (v.joinOp o n).1 = .nilIface := by rw [hjn]; rfl
      have hok := HOK.out; rw [E] at hok
      have HOK2 := Lib.hid hok
      have E1 := Lib.hid E; clear E ht hjn hok
      go_wp2_with (first
        | (go_at_call 28; refine (HTK.out _ HEc.out HK.out.pool).mono ?_; rintro e w3 ⟨rfl, h3⟩; rw [et]; have H3 := Lib.hid h3; have HB3 := Lib.hid (Keep.after HK.out.below h3.1 (fun i hi => by rcases hi with rfl | rfl <;> omega)); clear h3; have HP3 := Lib.hid ((HPV.out.below HK.out.below lpv.1 lpv.2).keep H3.out.1 (by omega) (by omega)))
        | (go_at_call 25; refine (HJN.out _ _ _ (HE.out.below HB3.out) HP3.out).mono ?_; rintro e w4 ⟨rfl, h4⟩; rw [ej];
            have hK4 := ((Keep.of_below (F := fun b => L.role b = .poo j (some c) ∨ L.role b = .map j (some c)) HB3.out).trans (h4.1.mono (fun i hi => by rcases hi with rfl | rfl; exact .inl rpv; exact .inr rmv)));
            have hM : LeaveM w w4 L j c (m + 1) (w.heap.size + 1) w.heap.size (L.pb j (some c)) (L.pm j (some c)) (q.takeOp o n).2 (v.joinOp o n).2 := (⟨hK4, H3.out.2.keep h4.1 (by omega) (by omega), h4.2, by omega, by omega, by omega, by omega, by omega, by omega⟩);
            obtain ⟨D, o5, x0, x1, x2, hend⟩ := HL.out _ _ _ _ _ HOK2.out hM;
            obtain ⟨v0, st, w6, hme, hmt, hst⟩ := own_entry o5 keyI Tryd.underlying53 hm ptrZero (keyOf_int_mk Tryd.underlying3 hcw);
            obtain ⟨w7, hes, o7, ht7⟩ := hst (blkElem_mk (L.pb j (some c)));
            have HEND := Lib.hid (hend w7 ht7 o7);
            clear hend o7 ht7 hst hmt o5 hM h4 hK4))
      go_ret
      rw [E1.out]
      exact ⟨rfl, HEND.out⟩
theorem stake_Leave (A : Nat → Addr) (S : List Nat) (sb : Nat) (F : Nat → Prop) (m : Nat) (s : SS) (o k n c : Int) (w : World) (h : StakesAt sb F m s w) (hE : Errs A S w) (h2 : 2 ∈ S) (h4 : 4 ∈ S) (h6 : 6 ∈ S) (h7 : 7 ∈ S) (h8 : 8 ∈ S) (hm : m + 1 < maxLen) (hcw : (Lit.int .i64 c).wf = true) :
    Calls Tryd.prog 9 #[.pointer (some ⟨sb, 0, none⟩), .int .i64 o, .int .i64 k, .int .i64 n, .int .i64 c] w fun e w' => e = .returned (ev A (s.leaveOp o k n c).1) ∧ StakesP sb F (m + 2) (s.leaveOp o k n c).2 w w' := by
  obtain ⟨L, hL, hF, hlt⟩ := h
  have HS := Lib.hid ((StakesP.refl (F := F) ⟨L, hL, hF, hlt⟩).mono (show m ≤ m + 2 by omega))
  rcases reg_cases hL.ok k with hi | ⟨j, rfl, hj, hi⟩
  · have E := Lib.hid (leave_no (o := o) (n := n) (c := c) hi)
    have HB := Lib.hid (stake_baker_no A S sb L m s k w hL hi hE h4)
    clear hL hF hlt hi hE
    go_enter Tryd.func9, Tryd.ntmps9
    go_wp2_with (go_at_call 24; refine HB.out.mono ?_; rintro e w' ⟨rfl, d, rfl⟩)
    go_ret
    rw [E.out]
    exact ⟨rfl, HS.out.drewN d⟩
  · obtain ⟨q, hq, hg⟩ := SS.is_some hi
    by_cases hcy : cycleC c = 0
    · cases hf : s.find j c with
      | none => exact stake_Leave_none A S sb F m s L o n c j q w hL hF hlt hj hi hq hg hE h2 h6 h7 h8 hm hcw hcy hf
      | some v => exact stake_Leave_some A S sb F m s L o n c j q w hL hF hlt hj hi hq hg hE h2 h6 h7 h8 hm hcw hcy v hf
    · have E := Lib.hid (leave_cyc (o := o) (n := n) hq hcy)
      have HB := Lib.hid (stake_baker_yes sb L m s j w hL hj hi)
      have HC := Lib.hid (stake_cycleError A S c w hE h2)
      have ec : ev A (cycleC c) = .iface 181 (.pointer (some (A 2))) := by
        have : cycleC c = 2 := by unfold cycleC at hcy ⊢; split at hcy <;> simp_all
        rw [this]; rfl
      clear hL hF hlt hi hE hcy hq hg
      go_enter Tryd.func9, Tryd.ntmps9
      go_wp2_with (first
        | (go_at_call 24; refine HB.out.mono ?_; rintro e w' ⟨rfl, rfl⟩)
        | (go_at_call 26; refine HC.out.mono ?_; rintro e w' ⟨rfl, rfl⟩; rw [ec]))
      go_ret
      rw [E.out]
      exact ⟨rfl, HS.out⟩
end Go.Proofs.YtajnfkmkombajacDoor
namespace Go.Proofs.YtajnfkmkombajacDoor
open Go.RowKit Go.Maps

theorem SS.waits_no {s : SS} (h : s.Ok) {k : Int} (hi : s.is k = false) (o c : Int) : s.waits o k c = 0 := by
  unfold SS.waits
  cases hf : s.find k c with
  | none => rfl
  | some q => have := (h.waits _ (SS.find_some hf)).2.1; simp only at this; rw [hi] at this; cases this

set_option maxRecDepth 8000 in
theorem stake_Waits (A : Nat → Addr) (S : List Nat) (sb m : Nat) (L : Lay) (s : SS) (o k c : Int) (w : World) (h : StakesL sb L m s w) (hE : Errs A S w) (h2 : 2 ∈ S) (ho : (Lit.int .i64 o).wf = true) (hc : (Lit.int .i64 c).wf = true) :
    Calls Tryd.prog 12 #[.pointer (some ⟨sb, 0, none⟩), .int .i64 o, .int .i64 k, .int .i64 c] w fun e w' => e = .returned (.int .i64 (s.waits o k c)) ∧ Dr w w' := by
  have HI := Lib.hid (stake_Is sb L m s k w h)
  rcases reg_cases h.ok k with hi | ⟨j, rfl, hj, hi⟩
  · rw [hi] at HI
    have HV := Lib.hid (SS.waits_no h.ok hi o c)
    clear h hi hE
    go_enter Tryd.func12, Tryd.ntmps12
    go_wp2_with (go_at_call 22; refine HI.out.mono ?_; rintro e w' ⟨rfl, rfl⟩)
    go_ret
    exact ⟨by rw [HV.out]; rfl, Dr.refl _⟩
  · rw [hi] at HI
    have hcl := h.cell hj
    rw [bptr_yes hi] at hcl
    obtain ⟨c0, c1⟩ := h.baker hj hi
    have hlk := h.look hj hi c hc w rfl
    cases hf : s.find j c with
    | none =>
      rw [hf] at hlk
      simp only [Option.isSome_none, Bool.false_eq_true, if_false] at hlk
      have HV := Lib.hid (show s.waits o j c = 0 by unfold SS.waits; rw [hf]; rfl)
      clear h hi hE hf
      go_enter Tryd.func12, Tryd.ntmps12
      go_wp2_with (go_at_call 22; refine HI.out.mono ?_; rintro e w' ⟨rfl, rfl⟩)
      go_ret
      exact ⟨by rw [HV.out]; rfl, Dr.refl _⟩
    | some q =>
      rw [hf] at hlk
      simp only [Option.isSome_some, if_true] at hlk
      have HV := Lib.hid (show s.waits o j c = q.value o by unfold SS.waits; rw [hf]; rfl)
      have HP := Lib.hid (pool_Value A S _ _ _ _ o w hE h2 (h.poo j (some c) q hj hf).1 ho)
      clear h hi hE hf
      go_enter Tryd.func12, Tryd.ntmps12
      go_wp2_with (first
        | (go_at_call 22; refine HI.out.mono ?_; rintro e w' ⟨rfl, rfl⟩)
        | (go_at_call 31; refine HP.out.mono ?_; rintro e w' ⟨rfl, d, rfl⟩))
      go_ret
      exact ⟨by rw [HV.out]; rfl, d, rfl⟩

/-- stakes in memory that is new since W -/
structure SU (W : World) (sb : Nat) (F : Nat → Prop) (n : Nat) (s : SS) (w : World) : Prop where
  below : Below W.heap.size W w
  st : StakesAt sb F n s w
  new : ∀ b, F b → W.heap.size ≤ b
section
variable {W w w' : World} {sb n m : Nat} {F : Nat → Prop} {s s' : SS}
theorem SU.of (h : SU W sb F n s w) (k : StakesP sb F m s' w w') : SU W sb (grownF F w w') m s' w' :=
  ⟨Keep.after h.below k.1 h.new, k.2, fun b hb => by rcases hb with hb | hb; exact h.new b hb; exact Nat.le_trans h.below.size hb.1⟩
theorem SU.next (h : SU W sb F n s w) (k : Below w.heap.size w w') : SU W sb F n s w' := ⟨btrans h.below k, h.st.below k, h.new⟩
theorem SU.drewN (h : SU W sb F n s w) (k : Nat) : SU W sb F n s (w.drewN k) := ⟨h.below.drewN k, h.st.drewN k, h.new⟩
theorem SU.dr (h : SU W sb F n s w) (k : Dr w w') : SU W sb F n s w' := by obtain ⟨j, rfl⟩ := k; exact h.drewN j
theorem SU.mono (h : SU W sb F n s w) (hm : n ≤ m) : SU W sb F m s w := ⟨h.below, h.st.mono hm, h.new⟩
theorem SU.keep {G : Nat → Prop} (h : SU W sb F n s w) (k : Keep G w w') (hG : ∀ b, G b → W.heap.size ≤ b) (hd : ∀ b, F b → ¬ G b) : SU W sb F n s w' := ⟨Keep.after h.below k hG, h.st.keep k hd, h.new⟩
theorem SU.fe {A : Nat → Addr} {S : List Nat} (h : SU W sb F n s w) (hE : Errs A S W) : ∀ c ∈ S, ¬ F (gE c) := fun c hc hf => by have := h.new _ hf; have := hE.lt hc; omega
theorem grownF_not {b : Nat} (hF : ¬ F b) (hb : b < w.heap.size) : ¬ grownF F w w' b := fun h => by rcases h with h | h; exact hF h; omega
end

theorem SS.join_len (s : SS) (o k n : Int) : (s.joinOp o k n).2.W = s.W := by unfold SS.joinOp; cases s.pool k <;> rfl
theorem SS.add_len (s : SS) (k n : Int) : (s.addOp k n).2.W = s.W := by unfold SS.addOp; cases s.pool k <;> rfl
theorem SS.reg_len (s : SS) (k : Int) : (s.regOp k).2.W = s.W := by unfold SS.regOp; split; rfl; split <;> rfl
theorem SS.free_len (s : SS) (o c : Int) : (s.freeOp o c).2.2.W.length = s.W.length := by unfold SS.freeOp; split; rfl; split <;> simp
theorem SS.slash_len (s : SS) (k f p : Int) : (s.slashOp k f p).2.2.W.length = s.W.length := by
  unfold SS.slashOp
  cases s.pool k with
  | none => rfl
  | some q => simp only; split <;> simp
theorem SS.setW_len (s : SS) (k c : Int) (q : QS) : (s.setW k c q).W.length ≤ s.W.length + 1 := by unfold SS.setW; simp only; split <;> simp
theorem SS.leave_len (s : SS) (o k n c : Int) : (s.leaveOp o k n c).2.W.length ≤ s.W.length + 1 := by
  unfold SS.leaveOp
  cases s.pool k with
  | none => simp
  | some q =>
    simp only
    split
    · simp
    · split
      · simp
      · split
        · simp
        · exact SS.setW_len _ _ _ _

theorem staked_facts : ∃ s1 s2 s3 : SS, SS.new.regOp 1 = (0, s1) ∧ s1.joinOp 4 1 10 = (0, s2) ∧ s2.leaveOp 4 1 3 5 = (0, s3) ∧ s3.staked 1 = 7 ∧ s3.total = 10 ∧ s3.waits 4 1 5 = 3 ∧ s3.W.length ≤ 8000 :=
  ⟨_, _, _, rfl, rfl, rfl, by rfl, by rfl, by rfl, by decide⟩
end Go.Proofs.YtajnfkmkombajacDoor
namespace Go.Proofs.YtajnfkmkombajacDoor
open Go.RowKit Go.Maps

section
variable {sb n : Nat} {F : Nat → Prop} {s : SS} {w : World}
theorem st_Is (k : Int) (h : StakesAt sb F n s w) : Calls Tryd.prog 22 #[.pointer (some ⟨sb, 0, none⟩), .int .i64 k] w fun e w' => e = .returned (.bool (s.is k)) ∧ w = w' := by
  obtain ⟨L, hL, _⟩ := h; exact stake_Is sb L n s k w hL
theorem st_Staked (k : Int) (h : StakesAt sb F n s w) : Calls Tryd.prog 21 #[.pointer (some ⟨sb, 0, none⟩), .int .i64 k] w fun e w' => e = .returned (.int .i64 (s.staked k)) ∧ w = w' := by
  obtain ⟨L, hL, _⟩ := h; exact stake_Staked sb L n s k w hL
theorem st_Total (h : StakesAt sb F n s w) (hW : s.W.length ≤ 8000) : Calls Tryd.prog 14 #[.pointer (some ⟨sb, 0, none⟩)] w fun e w' => e = .returned (.int .i64 s.total) ∧ Below w.heap.size w w' := by
  obtain ⟨L, hL, hF, hlt⟩ := h; exact stake_Total sb n F L s w hL hF hlt hW
theorem st_Waits (A : Nat → Addr) (S : List Nat) (o k c : Int) (h : StakesAt sb F n s w) (hE : Errs A S w) (h2 : 2 ∈ S) (ho : (Lit.int .i64 o).wf = true) (hc : (Lit.int .i64 c).wf = true) :
    Calls Tryd.prog 12 #[.pointer (some ⟨sb, 0, none⟩), .int .i64 o, .int .i64 k, .int .i64 c] w fun e w' => e = .returned (.int .i64 (s.waits o k c)) ∧ Dr w w' := by
  obtain ⟨L, hL, _⟩ := h; exact stake_Waits A S sb n L s o k c w hL hE h2 ho hc
theorem st_Value (A : Nat → Addr) (S : List Nat) (o k : Int) (h : StakesAt sb F n s w) (hE : Errs A S w) (h2 : 2 ∈ S) (ho : (Lit.int .i64 o).wf = true) :
    Calls Tryd.prog 15 #[.pointer (some ⟨sb, 0, none⟩), .int .i64 o, .int .i64 k] w fun e w' => e = .returned (.int .i64 (s.value o k)) ∧ Dr w w' := by
  obtain ⟨L, hL, _⟩ := h; exact stake_Value A S sb L n s o k w hL hE h2 ho
end

set_option maxRecDepth 8000 in
set_option maxHeartbeats 1000000 in
theorem law_staked (A : Nat → Addr) (S : List Nat) (w : World) (hE : Errs A S w) (h2 : 2 ∈ S) (h4 : 4 ∈ S) (h5 : 5 ∈ S) (h6 : 6 ∈ S) (h7 : 7 ∈ S) (h8 : 8 ∈ S) :
    Calls Tryd.prog 5 #[] w fun e w' => e = .returned (.bool true) ∧ Below w.heap.size w w' := by
  have HE := Lib.hid hE; clear hE
  obtain ⟨s1, s2, s3, f1, f2, f3, f4, f5, f6, f7⟩ := staked_facts
  have F1 := Lib.hid f1; have F2 := Lib.hid f2; have F3 := Lib.hid f3; have F4 := Lib.hid f4; have F5 := Lib.hid f5; have F6 := Lib.hid f6
  clear f1 f2 f3 f4 f5 f6
  go_enter Tryd.func5, Tryd.ntmps5
  go_wp2_with fail
  refine (stake_New _).mono ?_
  rintro e w1 ⟨rfl, hb1, hs1⟩
  have U1 := Lib.hid (show SU w w.heap.size (fun k => k = w.heap.size) 0 SS.new w1 from ⟨hb1, hs1, fun b hb => by rw [hb]; exact Nat.le_refl _⟩)
  clear hb1 hs1
  generalize hsb : w.heap.size = sb at *
  clear hsb
  go_wp2_with fail
  refine (stake_Register A S sb _ 0 SS.new 1 _ U1.out.st (HE.out.below U1.out.below) h2 h5).mono ?_
  rintro e w2 ⟨rfl, h⟩
  rw [F1.out] at h ⊢
  simp only [ev_nil]
  have U2 := Lib.hid (U1.out.of h); clear h
  go_wp2_with fail
  refine (stake_Join A S sb _ 0 s1 4 1 10 _ U2.out.st (HE.out.below U2.out.below) h2 h4 h7 h8 (by unfold maxLen; omega)).mono ?_
  rintro e w3 ⟨rfl, h⟩
  rw [F2.out] at h ⊢
  simp only [ev_nil]
  have U3 := Lib.hid (U2.out.of h); clear h
  go_wp2_with fail
  refine (stake_Leave A S sb _ 1 s2 4 1 3 5 _ U3.out.st (HE.out.below U3.out.below) h2 h4 h6 h7 h8 (by unfold maxLen; omega) (by decide)).mono ?_
  rintro e w4 ⟨rfl, h⟩
  rw [F3.out] at h ⊢
  simp only [ev_nil]
  have U4 := Lib.hid (U3.out.of h); clear h
  go_wp2_with fail
  refine (st_Staked 1 U4.out.st).mono ?_
  rintro e w5 ⟨rfl, rfl⟩
  rw [F4.out]
  go_wp2_with fail
  refine (st_Total U4.out.st f7).mono ?_
  rintro e w5 ⟨rfl, hb5⟩
  rw [F5.out]
  have U5 := Lib.hid (U4.out.next hb5); clear hb5
  go_wp2_with fail
  refine (st_Waits A S 4 1 5 U5.out.st (HE.out.below U5.out.below) h2 (by decide) (by decide)).mono ?_
  rintro e w6 ⟨rfl, d, rfl⟩
  rw [F6.out]
  go_wp2_with fail
  go_ret
  exact ⟨rfl, U5.out.below.drewN d⟩
end Go.Proofs.YtajnfkmkombajacDoor
namespace Go.Proofs.YtajnfkmkombajacDoor
open Go.RowKit

/-- The slice value reads, in w, as these points. -/
structure RdP (w : World) (ao : Option Addr) (len cap : Nat) (l : List (Int × Int)) : Prop where
  size : l.length = len
  lc : len ≤ cap
  cm : cap ≤ maxLen
  nul : ao = none → cap = 0
  wf : ∀ p ∈ l, (-9223372036854775808 ≤ p.1 ∧ p.1 ≤ 9223372036854775807) ∧ (-9223372036854775808 ≤ p.2 ∧ p.2 ≤ 9223372036854775807)
  cells : ∀ i, i < len → ∃ b off, ao = some ⟨b, off, none⟩ ∧ w.cell? ⟨b, off + i * 2, none⟩ = some (.int .i64 (l.getD i (0, 0)).1) ∧ w.cell? ⟨b, off + i * 2 + 1, none⟩ = some (.int .i64 (l.getD i (0, 0)).2)

theorem RdP.split {w : World} {ao : Option Addr} {len cap : Nat} {l : List (Int × Int)} (h : RdP w ao len cap l) :
    (len = 0 ∧ l = []) ∨ (0 < len ∧ ∃ b off, ao = some ⟨b, off, none⟩ ∧ b < w.heap.size ∧ ∀ i, i < len → w.cell? ⟨b, off + i * 2, none⟩ = some (.int .i64 (l.getD i (0, 0)).1) ∧ w.cell? ⟨b, off + i * 2 + 1, none⟩ = some (.int .i64 (l.getD i (0, 0)).2)) := by
  rcases Nat.eq_zero_or_pos len with h0 | h0
  · exact .inl ⟨h0, List.eq_nil_of_length_eq_zero (by rw [h.size, h0])⟩
  · obtain ⟨b, off, ha, hc, _⟩ := h.cells 0 h0
    refine .inr ⟨h0, b, off, ha, World.block_lt_of_cell? w _ hc, fun i hi => ?_⟩
    obtain ⟨b', off', ha', hc'⟩ := h.cells i hi
    rw [ha] at ha'; cases ha'; exact hc'

theorem RdP.below {w w' : World} {ao : Option Addr} {len cap : Nat} {l : List (Int × Int)} (h : RdP w ao len cap l) (hb : Below w.heap.size w w') : RdP w' ao len cap l := by
  refine ⟨h.size, h.lc, h.cm, h.nul, h.wf, fun i hi => ?_⟩
  obtain ⟨b, off, ha, hc, hd⟩ := h.cells i hi
  exact ⟨b, off, ha, by rw [hb.cell (p := ⟨b, off + i * 2, none⟩) (World.block_lt_of_cell? w _ hc)]; exact hc, by rw [hb.cell (p := ⟨b, off + i * 2 + 1, none⟩) (World.block_lt_of_cell? w _ hd)]; exact hd⟩

/-- is it no number of a point? -/
def ptBad (p : Int × Int) : Prop := p.1 < 0 ∨ 1000000 < p.1 ∨ p.2 < 0 ∨ 1000000 < p.2
instance (p : Int × Int) : Decidable (ptBad p) := by unfold ptBad; infer_instance

/-- an error's number, and its place (-1: bare), of the points from place i on -/
def chk : Nat → Option Int → List (Int × Int) → Nat × Int
  | _, _, [] => (0, -1)
  | i, none, p :: r => if ptBad p then (2, i) else chk (i + 1) (some p.1) r
  | i, some x, p :: r => if ptBad p then (2, i) else if p.1 ≤ x then (3, i) else chk (i + 1) (some p.1) r

/-- .. of a whole bend -/
def checkF (l : List (Int × Int)) : Nat × Int := if l.length < 2 ∨ 8 < l.length then (3, -1) else chk 0 none l

/-- a right bend from a point on, at x -/
def bendGo : List (Int × Int) → Int → Int
  | [], _ => 0
  | [p], _ => p.2
  | p :: q :: r, x => if x < q.1 then p.2 + (q.2 - p.2) * (x - p.1) / (q.1 - p.1) else bendGo (q :: r) x

/-- a right bend at x -/
def bendV (l : List (Int × Int)) (x : Int) : Int := if x < (l.getD 0 (0, 0)).1 then (l.getD 0 (0, 0)).2 else bendGo l x
/-- an error's number and place of a bend at x; and its value -/
def bendF (l : List (Int × Int)) (x : Int) : Nat × Int := if (checkF l).1 ≠ 0 then checkF l else if x < 0 ∨ 1000000 < x then (2, -1) else (0, -1)

/-- what is right of a bend -/
structure BendOk (l : List (Int × Int)) : Prop where
  two : 2 ≤ l.length
  eight : l.length ≤ 8
  good : ∀ i, i < l.length → ¬ ptBad (l.getD i (0, 0))
  rise : ∀ i, i + 1 < l.length → (l.getD i (0, 0)).1 < (l.getD (i + 1) (0, 0)).1

theorem chk_ok : ∀ (r : List (Int × Int)) (i : Nat) (o : Option Int), (chk i o r).1 = 0 → (∀ j, j < r.length → ¬ ptBad (r.getD j (0, 0))) ∧ (∀ j, j + 1 < r.length → (r.getD j (0, 0)).1 < (r.getD (j + 1) (0, 0)).1) ∧ ∀ x, o = some x → 0 < r.length → x < (r.getD 0 (0, 0)).1
  | [], _, _, _ => ⟨fun j h => by simp at h, fun j h => by simp at h, fun x _ h => by simp at h⟩
  | p :: r, i, o, h => by
    have key : ¬ ptBad p ∧ (chk (i + 1) (some p.1) r).1 = 0 ∧ ∀ x, o = some x → x < p.1 := by
      cases o with
      | none =>
        simp only [chk] at h
        split at h
        · cases h
        · rename_i hb; exact ⟨hb, h, fun x hx => by cases hx⟩
      | some x =>
        simp only [chk] at h
        split at h
        · cases h
        · rename_i hb
          split at h
          · cases h
          · rename_i hx; exact ⟨hb, h, fun y hy => by cases hy; omega⟩
    obtain ⟨k1, k2, k3⟩ := key
    obtain ⟨a, b, c⟩ := chk_ok r (i + 1) (some p.1) k2
    refine ⟨fun j hj => ?_, fun j hj => ?_, fun x hx _ => by simpa using k3 x hx⟩
    · cases j with
      | zero => simpa using k1
      | succ j => simpa using a j (by simpa using hj)
    · cases j with
      | zero => simpa using c p.1 rfl (by simpa using hj)
      | succ j => simpa using b j (by simpa using hj)

theorem check_ok {l : List (Int × Int)} (h : (checkF l).1 = 0) : BendOk l := by
  unfold checkF at h
  split at h
  · cases h
  · rename_i hn
    obtain ⟨a, b, _⟩ := chk_ok l 0 none h
    exact ⟨by omega, by omega, a, b⟩
/-- the X ahead of place k -/
def prevX (l : List (Int × Int)) (k : Nat) : Option Int := if k = 0 then none else some (l.getD (k - 1) (0, 0)).1
theorem drop_get {l : List (Int × Int)} {k : Nat} (h : k < l.length) : l.drop k = l.getD k (0, 0) :: l.drop (k + 1) := by
  rw [List.drop_eq_getElem_cons h]; simp [List.getD_eq_getElem?_getD, List.getElem?_eq_getElem h]
theorem chk_bad {l : List (Int × Int)} {k : Nat} (h : k < l.length) (hb : ptBad (l.getD k (0, 0))) : chk k (prevX l k) (l.drop k) = (2, (k : Int)) := by
  rw [drop_get h]; unfold prevX; split <;> simp only [chk, if_pos hb]
theorem chk_shape {l : List (Int × Int)} {k : Nat} (h : k < l.length) (hb : ¬ ptBad (l.getD k (0, 0))) (hk : 0 < k) (hx : (l.getD k (0, 0)).1 ≤ (l.getD (k - 1) (0, 0)).1) : chk k (prevX l k) (l.drop k) = (3, (k : Int)) := by
  rw [drop_get h]; unfold prevX; rw [if_neg (by omega)]; simp only [chk, if_neg hb, if_pos hx]
theorem chk_next {l : List (Int × Int)} {k : Nat} (h : k < l.length) (hb : ¬ ptBad (l.getD k (0, 0))) (hx : k = 0 ∨ (l.getD (k - 1) (0, 0)).1 < (l.getD k (0, 0)).1) : chk k (prevX l k) (l.drop k) = chk (k + 1) (prevX l (k + 1)) (l.drop (k + 1)) := by
  rw [drop_get h]
  have e : prevX l (k + 1) = some (l.getD k (0, 0)).1 := by unfold prevX; rw [if_neg (by omega)]; rfl
  rw [e]
  unfold prevX
  split
  · simp only [chk, if_neg hb]
  · rename_i h0
    have : ¬ (l.getD k (0, 0)).1 ≤ (l.getD (k - 1) (0, 0)).1 := by rcases hx with h | h <;> omega
    simp only [chk, if_neg hb, if_neg this]
theorem chk_done {l : List (Int × Int)} {k : Nat} (h : l.length ≤ k) : chk k (prevX l k) (l.drop k) = (0, -1) := by
  rw [List.drop_eq_nil_of_le h]; unfold prevX; split <;> rfl
theorem checkF_in {l : List (Int × Int)} (h : ¬ (l.length < 2 ∨ 8 < l.length)) : checkF l = chk 0 (prevX l 0) (l.drop 0) := by
  unfold checkF; rw [if_neg h]; rfl
theorem checkF_out {l : List (Int × Int)} (h : l.length < 2 ∨ 8 < l.length) : checkF l = (3, -1) := by
  unfold checkF; rw [if_pos h]
theorem ptBad_cases {x y : Int} : x < 0 ∨ (0 ≤ x ∧ 1000000 < x) ∨ (0 ≤ x ∧ x ≤ 1000000 ∧ y < 0) ∨ (0 ≤ x ∧ x ≤ 1000000 ∧ 0 ≤ y ∧ 1000000 < y) ∨ (0 ≤ x ∧ x ≤ 1000000 ∧ 0 ≤ y ∧ y ≤ 1000000) := by omega
theorem chk_zero : ∀ (r : List (Int × Int)) (i : Nat) (o : Option Int), (chk i o r).1 = 0 → chk i o r = (0, -1)
  | [], _, _, _ => rfl
  | p :: r, i, none, h => by
    simp only [chk] at h ⊢
    split at h
    · cases h
    · rename_i hb; rw [if_neg hb]; exact chk_zero r _ _ h
  | p :: r, i, some x, h => by
    simp only [chk] at h ⊢
    split at h
    · cases h
    · rename_i hb
      rw [if_neg hb]
      split at h
      · cases h
      · rename_i hx; rw [if_neg hx]; exact chk_zero r _ _ h
theorem checkF_zero {l : List (Int × Int)} (h : (checkF l).1 = 0) : checkF l = (0, -1) := by
  unfold checkF at h ⊢
  split at h
  · cases h
  · rename_i hn; rw [if_neg hn]; exact chk_zero _ _ _ h

theorem bendGo_step {l : List (Int × Int)} {k : Nat} {x : Int} (h : k + 1 < l.length) (hx : ¬ x < (l.getD (k + 1) (0, 0)).1) : bendGo (l.drop k) x = bendGo (l.drop (k + 1)) x := by
  rw [drop_get (by omega : k < l.length), drop_get h]
  simp only [bendGo, if_neg hx]
theorem bendGo_here {l : List (Int × Int)} {k : Nat} {x : Int} (h : k + 1 < l.length) (hx : x < (l.getD (k + 1) (0, 0)).1) :
    bendGo (l.drop k) x = (l.getD k (0, 0)).2 + ((l.getD (k + 1) (0, 0)).2 - (l.getD k (0, 0)).2) * (x - (l.getD k (0, 0)).1) / ((l.getD (k + 1) (0, 0)).1 - (l.getD k (0, 0)).1) := by
  rw [drop_get (by omega : k < l.length), drop_get h]
  simp only [bendGo, if_pos hx]
theorem bendGo_last {l : List (Int × Int)} {k : Nat} {x : Int} (h : k + 1 = l.length) : bendGo (l.drop k) x = (l.getD k (0, 0)).2 := by
  rw [drop_get (by omega : k < l.length), List.drop_eq_nil_of_le (by omega)]
  rfl
theorem bend_mul {p q : Int × Int} {x : Int} (hp : ¬ ptBad p) (hq : ¬ ptBad q) (h0 : 0 ≤ x) (h1 : x ≤ 1000000) :
    -1000000000000 ≤ (q.2 - p.2) * (x - p.1) ∧ (q.2 - p.2) * (x - p.1) ≤ 1000000000000 := by
  unfold ptBad at hp hq
  have h : ((q.2 - p.2) * (x - p.1)).natAbs ≤ 1000000 * 1000000 := by
    rw [Int.natAbs_mul]; exact Nat.mul_le_mul (by omega) (by omega)
  omega
end Go.Proofs.YtajnfkmkombajacDoor
namespace Go.Proofs.YtajnfkmkombajacDoor
open Go.RowKit

/-- the bend of rates -/
def rateL : List (Int × Int) := [(0, 40000), (250000, 20000), (500000, 10000), (1000000, 5000)]
theorem rateL_right : (checkF rateL).1 = 0 := by decide
theorem rateL_at {x : Int} (h0 : 0 ≤ x) (h1 : x ≤ 1000000) : bendV rateL x =
    if x < 250000 then 40000 + (-20000) * x / 250000 else if x < 500000 then 20000 + (-10000) * (x - 250000) / 250000 else if x < 1000000 then 10000 + (-5000) * (x - 500000) / 500000 else 5000 := by
  unfold bendV
  rw [if_neg (by simp [rateL]; omega)]
  simp only [rateL, bendGo]
  simp only [show (20000 : Int) - 40000 = -20000 from rfl, show (10000 : Int) - 20000 = -10000 from rfl, show (5000 : Int) - 10000 = -5000 from rfl, Int.sub_zero, show (500000 : Int) - 250000 = 250000 from rfl, show (1000000 : Int) - 500000 = 500000 from rfl]
theorem rateL_bounds {x : Int} (h0 : 0 ≤ x) (h1 : x ≤ 1000000) : 5000 ≤ bendV rateL x ∧ bendV rateL x ≤ 40000 := by
  rw [rateL_at h0 h1]; split
  · omega
  · split
    · omega
    · split <;> omega
theorem rateL_falls {x y : Int} (h0 : 0 ≤ x) (hxy : x ≤ y) (h1 : y ≤ 1000000) : bendV rateL y ≤ bendV rateL x := by
  rw [rateL_at h0 (by omega), rateL_at (by omega) h1]
  by_cases a1 : x < 250000 <;> by_cases a2 : x < 500000 <;> by_cases a3 : x < 1000000 <;> by_cases b1 : y < 250000 <;> by_cases b2 : y < 500000 <;> by_cases b3 : y < 1000000 <;> simp only [a1, a2, a3, b1, b2, b3, if_true, if_false] <;> omega

/-- may it be a ratio of these? -/
def ratioOk (s p : Int) : Prop := 0 ≤ s ∧ s ≤ p ∧ 1 ≤ p ∧ p ≤ 1125899906842624
instance (s p : Int) : Decidable (ratioOk s p) := by unfold ratioOk; infer_instance
def ratioN (s p : Int) : Int := if ratioOk s p then s * 1000000 / p else 0
def ratioC (s p : Int) : Nat := if ratioOk s p then 0 else 2
theorem ratio_over {s p : Int} (h : ratioOk s p) : overOk s 1000000 p := by
  obtain ⟨h0, h1, h2, h3⟩ := h
  have : s * 1000000 / p ≤ 1000000 := by
    have h := Int.ediv_le_ediv (show 0 < p by omega) (show s * 1000000 ≤ 1000000 * p by omega)
    rwa [Int.mul_ediv_cancel _ (show p ≠ 0 by omega)] at h
  exact ⟨by omega, by omega, by omega, by omega⟩
theorem ratio_in {s p : Int} (h : ratioOk s p) : 0 ≤ ratioN s p ∧ ratioN s p ≤ 1000000 := by
  unfold ratioN; rw [if_pos h]
  obtain ⟨h0, h1, h2, h3⟩ := h
  have : s * 1000000 / p ≤ 1000000 := by
    have h := Int.ediv_le_ediv (show 0 < p by omega) (show s * 1000000 ≤ 1000000 * p by omega)
    rwa [Int.mul_ediv_cancel _ (show p ≠ 0 by omega)] at h
  exact ⟨Int.ediv_nonneg (by omega) (by omega), this⟩
theorem ratio_rises {s t p : Int} (h : ratioOk s p) (k : ratioOk t p) (hst : s ≤ t) : ratioN s p ≤ ratioN t p := by
  unfold ratioN; rw [if_pos h, if_pos k]
  exact Int.ediv_le_ediv (by have := h.2.2.1; omega) (by omega)

def rateOk (r b : Int) : Prop := 0 ≤ r ∧ r ≤ 1000000 ∧ 0 ≤ b ∧ b ≤ 5000
instance (s p : Int) : Decidable (rateOk s p) := by unfold rateOk; infer_instance
def rateC (r b : Int) : Nat := if rateOk r b then 0 else 2
def rateN (r b : Int) : Int := if rateOk r b then bendV rateL r + b else 0
def bonusN (b r : Int) : Int := if rateOk r b then (if r < 480000 then min 5000 (b + 100) else if 520000 < r then max 0 (b - 100) else b) else 0

def rewardOk (s r : Int) : Prop := (0 ≤ s ∧ s ≤ 1125899906842624) ∧ 0 ≤ r ∧ r ≤ 1000000
instance (s p : Int) : Decidable (rewardOk s p) := by unfold rewardOk; infer_instance
def rewardC (s r : Int) : Nat := if rewardOk s r then 0 else 2
def rewardN (s r : Int) : Int := if rewardOk s r then s * r / 1000000 / 4 else 0
theorem reward_over {s r : Int} (h : rewardOk s r) : overOk s r 1000000 := by
  obtain ⟨⟨h0, h1⟩, h2, h3⟩ := h
  have h4 : s * r ≤ s * 1000000 := Int.mul_le_mul_of_nonneg_left h3 h0
  exact ⟨by omega, by omega, by omega, by omega⟩
theorem reward_in {s r : Int} (h : rewardOk s r) : 0 ≤ rewardN s r ∧ rewardN s r ≤ s := by
  have h4 : s * r ≤ s * 1000000 := Int.mul_le_mul_of_nonneg_left h.2.2 h.1.1
  have h5 : 0 ≤ s * r := Int.mul_nonneg h.1.1 h.2.1
  unfold rewardN; rw [if_pos h]
  omega
end Go.Proofs.YtajnfkmkombajacDoor
