/- The walk of stake.Leave. -/
import Derived.Test.YtajnfkmkombajacDoorStake5
set_option linter.unusedVariables false
set_option linter.unusedSimpArgs false
namespace Go.Proofs.YtajnfkmkombajacDoor
open Go.RowKit Go.Maps

/-- behind the copy -/
structure CopyW (w : World) (m : Nat) (q : QS) (wx : World) : Prop where
  below : Below w.heap.size w wx
  pool : PoolAt (w.heap.size + 1) w.heap.size m q wx
  size : wx.heap.size = w.heap.size + 2

set_option maxRecDepth 8000 in
set_option maxHeartbeats 2000000 in
theorem stake_Leave_none (A : Nat → Addr) (S : List Nat) (sb : Nat) (F : Nat → Prop) (m : Nat) (s : SS) (L : Lay) (o n c : Int) (j : Nat) (q : QS) (w : World) (hL : StakesL sb L m s w) (hF : ∀ b, L.role b ≠ .none → F b) (hlt : ∀ b, F b → b < w.heap.size) (hj : j < 3) (hi : s.is j = true) (hq : s.pool j = some q) (hg : s.get j none = some q)
    (hE : Errs A S w) (h2 : 2 ∈ S) (h6 : 6 ∈ S) (h7 : 7 ∈ S) (h8 : 8 ∈ S) (hm : m + 1 < maxLen) (hcw : (Lit.int .i64 c).wf = true) (hcy : cycleC c = 0) (hf : s.find j c = none) :
    Calls Tryd.prog 9 #[.pointer (some ⟨sb, 0, none⟩), .int .i64 o, .int .i64 j, .int .i64 n, .int .i64 c] w fun e w' => e = .returned (ev A (s.leaveOp o j n c).1) ∧ StakesP sb F (m + 2) (s.leaveOp o j n c).2 w w' := by
  have hSA : StakesAt sb F m s w := ⟨L, hL, hF, hlt⟩
  have HS := Lib.hid (fun w' hb => (StakesP.of_below (w' := w') hSA hb).mono (show m ≤ m + 2 by omega))
  have HB := Lib.hid (stake_baker_yes sb L m s j w hL hj hi)
  have HC := Lib.hid (stake_cycleError A S c w hE h2)
  have ec : ev A (cycleC c) = .nilIface := by rw [hcy]; rfl
  have HCP := Lib.hid (pool_Copy _ _ m q w.drew ((hL.poo j none q hj hg).1.drewN 1))
  obtain ⟨c0, c1⟩ := hL.baker hj hi
  have HE := Lib.hid hE
  have hl0 := hL.look hj hi c hcw w.drew rfl
  have hbb : L.bb j < w.heap.size := hlt _ (hF _ (by rw [(hL.bak j hj hi).2]; simp))
  have hwm : L.wm j < w.heap.size := hlt _ (hF _ (by rw [(hL.wai j hj hi).1]; simp))
  generalize hWV : (if (s.find j c).isSome then Value.pointer (some ⟨L.pb j (some c), 0, none⟩) else .pointer none) = wv at hl0
  have HX : Hid (∀ wx : World, Below w.heap.size w wx → wx.cell? ⟨L.bb j, 0, none⟩ = some (.pointer (some ⟨L.pb j none, 0, none⟩)) ∧ wx.cell? ⟨L.bb j, 1, none⟩ = some (.map (some (L.wm j))) ∧ (Instr.lookup 53 (.map (some (L.wm j))) (.int .i64 c) false).run Tryd.prog wx = .ok wv wx) :=
    Lib.hid (fun wx hb => ⟨by rw [hb.cell (p := ⟨L.bb j, 0, none⟩) hbb]; exact c0, by rw [hb.cell (p := ⟨L.bb j, 1, none⟩) hbb]; exact c1, by have := hL.look hj hi c hcw wx (hb.block _ hwm); rw [hWV] at this; exact this⟩)
  obtain rfl : wv = .pointer none := by rw [← hWV, hf]; rfl
  have HTK := Lib.hid (fun wx hE hp => pool_Take A S (w.heap.size + 1) w.heap.size m q o n wx hE h2 h6 hp (by omega))
  have HJN := Lib.hid (fun b mb wx hE hp => pool_Join A S b mb 0 QS.new o n wx hE h2 h7 h8 hp (by unfold maxLen; omega))
  have HW := Lib.hid (show (∃ k, (q.takeOp o n).1 = k ∧ k ≠ 0 ∧ s.leaveOp o j n c = (k, s)) ∨ ((q.takeOp o n).1 = 0 ∧ ∃ k, (QS.new.joinOp o n).1 = k ∧ k ≠ 0 ∧ s.leaveOp o j n c = (k, s)) ∨ ((q.takeOp o n).1 = 0 ∧ (QS.new.joinOp o n).1 = 0 ∧ s.leaveOp o j n c = (0, (s.setP j (q.takeOp o n).2).setW j c (QS.new.joinOp o n).2)) by
    have hv : (s.find j c).getD QS.new = QS.new := by rw [hf]; rfl
    by_cases ht : (q.takeOp o n).1 = 0
    · by_cases hjn : (QS.new.joinOp o n).1 = 0
      · exact .inr (.inr ⟨ht, hjn, leave_in hq hcy ht hv hjn⟩)
      · exact .inr (.inl ⟨ht, _, rfl, hjn, leave_join hq hcy ht hv hjn⟩)
    · exact .inl ⟨_, rfl, ht, leave_take hq hcy ht⟩)
  have HL := Lib.hid (fun q' v' w4 pb mb wb wx hs M r1 => hL.leaves (q' := q') (v' := v') (w4 := w4) (pb := pb) (mb := mb) (wb := wb) (wx := wx) hF hlt hj hi hg (c := c) hs (Nat.le_succ m) M r1)
  have HOK := Lib.hid (SS.leaveOp_ok hL.ok o j n c)
  clear hWV hSA hL hF hlt hE hq hg hf hi
  go_enter Tryd.func9, Tryd.ntmps9
  go_upto_region 7 with (first
    | (go_at_call 24; refine HB.out.mono ?_; rintro e w' ⟨rfl, rfl⟩)
    | (go_at_call 26; refine HC.out.mono ?_; rintro e w' ⟨rfl, rfl⟩; rw [ec]))
  go_cut [14, 15] (fun p x wx => p = .pointer (some ⟨w.heap.size + 1, 0, none⟩) ∧ x = .pointer none ∧ CopyW w m q wx)
  case first =>
    go_region_with (go_at_call 27; refine HCP.out.mono ?_; rintro e w1 ⟨rfl, hb1, hp1, hs1⟩; have hb1' : Below w.heap.size w w1 := (⟨hb1.os, hb1.tape, hb1.output, hb1.size, hb1.block⟩); obtain ⟨x0, x1, x2⟩ := HX.out w1 hb1')
    all_goals go_wp2_with fail
    all_goals go_meet
    all_goals (case rel => exact ⟨rfl, rfl, hb1', hp1, hs1⟩)
  case rest =>
    obtain ⟨rfl, rfl, hcut⟩ := hcut
    have HK := Lib.hid hcut; clear hcut
    have HEc := Lib.hid (HE.out.below HK.out.below)
    rcases HW.out with ⟨k, ht, hk, E⟩ | ⟨ht, k, hjn, hk, E⟩ | ⟨ht, hjn, E⟩
    · have et : ev A (q.takeOp o n).1 = .iface 181 (.pointer (some (A k))) := by rw [ht]; exact ev_some A hk
      have E1 := Lib.hid E; clear E ht
      go_wp2_with (first
        | (go_at_call 23; refine (pool_New _).mono ?_; rintro e w2 ⟨mb2, rfl, hb2, hmb2, hp2⟩; have HB2 := Lib.hid hb2; have HP2 := Lib.hid hp2; clear hb2 hp2)
        | (go_at_call 28; refine (HTK.out _ (HEc.out.below HB2.out) (HK.out.pool.keep (Keep.of_below (F := fun _ => False) HB2.out) id id)).mono ?_; rintro e w3 ⟨rfl, h3⟩; rw [et]))
      go_ret
      rw [E1.out]
      exact ⟨by rw [ev_some A hk]; rfl, HS.out _ (Keep.after (btrans HK.out.below HB2.out) h3.1 (fun i hi => by rcases hi with rfl | rfl <;> omega))⟩
    · have et : ev A (q.takeOp o n).1 = .nilIface := by rw [ht]; rfl
      have ej : ev A (QS.new.joinOp o n).1 = .iface 181 (.pointer (some (A k))) := by rw [hjn]; exact ev_some A hk
      have E1 := Lib.hid E; clear E ht hjn
      go_wp2_with (first
        | (go_at_call 23; refine (pool_New _).mono ?_; rintro e w2 ⟨mb2, rfl, hb2, hmb2, hp2⟩; have HB2 := Lib.hid hb2; have HP2 := Lib.hid hp2; clear hb2 hp2)
        | (go_at_call 28; refine (HTK.out _ (HEc.out.below HB2.out) (HK.out.pool.keep (Keep.of_below (F := fun _ => False) HB2.out) id id)).mono ?_; rintro e w3 ⟨rfl, h3⟩; rw [et]; have H3 := Lib.hid h3; have HB3 := Lib.hid (Keep.after (btrans HK.out.below HB2.out) h3.1 (fun i hi => by rcases hi with rfl | rfl <;> omega)); clear h3; have HP3 := Lib.hid (HP2.out.keep H3.out.1 (by have := HK.out.size; omega) (by have := HK.out.size; omega)))
        | (go_at_call 25; refine (HJN.out _ _ _ (HE.out.below HB3.out) HP3.out).mono ?_; rintro e w4 ⟨rfl, h4⟩; rw [ej]))
      go_ret
      rw [E1.out]
      exact ⟨by rw [ev_some A hk]; rfl, HS.out _ (Keep.after HB3.out h4.1 (fun i hi => by have := HK.out.size; rcases hi with rfl | rfl <;> omega))⟩
    · have et : ev A (q.takeOp o n).1 = .nilIface := by rw [ht]; rfl
      have ej : ev A (QS.new.joinOp o n).1 = .nilIface := by rw [hjn]; rfl
      have hok := HOK.out; rw [E] at hok
      have HOK2 := Lib.hid hok
      have E1 := Lib.hid E; clear E ht hjn hok
      go_wp2_with (first
        | (go_at_call 23; refine (pool_New _).mono ?_; rintro e w2 ⟨mb2, rfl, hb2, hmb2, hp2⟩; have HB2 := Lib.hid hb2; have HP2 := Lib.hid hp2; clear hb2 hp2)
        | (go_at_call 28; refine (HTK.out _ (HEc.out.below HB2.out) (HK.out.pool.keep (Keep.of_below (F := fun _ => False) HB2.out) id id)).mono ?_; rintro e w3 ⟨rfl, h3⟩; rw [et]; have H3 := Lib.hid h3; have HB3 := Lib.hid (Keep.after (btrans HK.out.below HB2.out) h3.1 (fun i hi => by rcases hi with rfl | rfl <;> omega)); clear h3; have HP3 := Lib.hid (HP2.out.keep H3.out.1 (by have := HK.out.size; omega) (by have := HK.out.size; omega)))
        | (go_at_call 25; refine (HJN.out _ _ _ (HE.out.below HB3.out) HP3.out).mono ?_; rintro e w4 ⟨rfl, h4⟩; rw [ej];
            have HB4 := Lib.hid (Keep.after HB3.out h4.1 (fun i hi => by have := HK.out.size; rcases hi with rfl | rfl <;> omega));
            have hM : LeaveM w w4 L j c (m + 1) (w.heap.size + 1) w.heap.size (wc.heap.size + 1) mb2 (q.takeOp o n).2 (QS.new.joinOp o n).2 := (⟨Keep.of_below HB4.out, H3.out.2.keep h4.1 (by have := HK.out.size; omega) (by have := HK.out.size; omega), h4.2.mono (by omega), by omega, by omega, by have := HK.out.size; omega, by have := HK.out.size; omega, by have := HK.out.size; omega, by have := HK.out.size; omega⟩);
            obtain ⟨D, o5, x0, x1, x2, hend⟩ := HL.out _ _ _ _ _ _ _ HOK2.out hM (.inl (by have := HK.out.size; omega));
            obtain ⟨v0, st, w6, hme, hmt, hst⟩ := own_entry o5 keyI Tryd.underlying53 hm ptrZero (keyOf_int_mk Tryd.underlying3 hcw);
            obtain ⟨w7, hes, o7, ht7⟩ := hst (blkElem_mk (wc.heap.size + 1));
            have HEND := Lib.hid (hend w7 ht7 o7);
            clear hend o7 ht7 hst hmt o5 hM h4))
      go_ret
      rw [E1.out]
      exact ⟨rfl, HEND.out⟩
set_option maxRecDepth 8000 in
set_option maxHeartbeats 2000000 in
theorem stake_Leave_some (A : Nat → Addr) (S : List Nat) (sb : Nat) (F : Nat → Prop) (m : Nat) (s : SS) (L : Lay) (o n c : Int) (j : Nat) (q : QS) (w : World) (hL : StakesL sb L m s w) (hF : ∀ b, L.role b ≠ .none → F b) (hlt : ∀ b, F b → b < w.heap.size) (hj : j < 3) (hi : s.is j = true) (hq : s.pool j = some q) (hg : s.get j none = some q)
    (hE : Errs A S w) (h2 : 2 ∈ S) (h6 : 6 ∈ S) (h7 : 7 ∈ S) (h8 : 8 ∈ S) (hm : m + 1 < maxLen) (hcw : (Lit.int .i64 c).wf = true) (hcy : cycleC c = 0) (v : QS) (hf : s.find j c = some v) :
    Calls Tryd.prog 9 #[.pointer (some ⟨sb, 0, none⟩), .int .i64 o, .int .i64 j, .int .i64 n, .int .i64 c] w fun e w' => e = .returned (ev A (s.leaveOp o j n c).1) ∧ StakesP sb F (m + 2) (s.leaveOp o j n c).2 w w' := by
  have hSA : StakesAt sb F m s w := ⟨L, hL, hF, hlt⟩
  have HS := Lib.hid (fun w' hb => (StakesP.of_below (w' := w') hSA hb).mono (show m ≤ m + 2 by omega))
  have HB := Lib.hid (stake_baker_yes sb L m s j w hL hj hi)
  have HC := Lib.hid (stake_cycleError A S c w hE h2)
  have ec : ev A (cycleC c) = .nilIface := by rw [hcy]; rfl
  have HCP := Lib.hid (pool_Copy _ _ m q w.drew ((hL.poo j none q hj hg).1.drewN 1))
  obtain ⟨c0, c1⟩ := hL.baker hj hi
  have HE := Lib.hid hE
  have hl0 := hL.look hj hi c hcw w.drew rfl
  have hbb : L.bb j < w.heap.size := hlt _ (hF _ (by rw [(hL.bak j hj hi).2]; simp))
  have hwm : L.wm j < w.heap.size := hlt _ (hF _ (by rw [(hL.wai j hj hi).1]; simp))
  generalize hWV : (if (s.find j c).isSome then Value.pointer (some ⟨L.pb j (some c), 0, none⟩) else .pointer none) = wv at hl0
  have HX : Hid (∀ wx : World, Below w.heap.size w wx → wx.cell? ⟨L.bb j, 0, none⟩ = some (.pointer (some ⟨L.pb j none, 0, none⟩)) ∧ wx.cell? ⟨L.bb j, 1, none⟩ = some (.map (some (L.wm j))) ∧ (Instr.lookup 53 (.map (some (L.wm j))) (.int .i64 c) false).run Tryd.prog wx = .ok wv wx) :=
    Lib.hid (fun wx hb => ⟨by rw [hb.cell (p := ⟨L.bb j, 0, none⟩) hbb]; exact c0, by rw [hb.cell (p := ⟨L.bb j, 1, none⟩) hbb]; exact c1, by have := hL.look hj hi c hcw wx (hb.block _ hwm); rw [hWV] at this; exact this⟩)
  obtain rfl : wv = .pointer (some ⟨L.pb j (some c), 0, none⟩) := by rw [← hWV, hf]; rfl
  obtain ⟨hpv, rpv, rmv⟩ := hL.poo j (some c) v hj hf
  have lpv : L.pb j (some c) < w.heap.size ∧ L.pm j (some c) < w.heap.size := hpv.lt
  have HTK := Lib.hid (fun wx hE hp => pool_Take A S (w.heap.size + 1) w.heap.size m q o n wx hE h2 h6 hp (by omega))
  have HJN := Lib.hid (fun b mb wx hE hp => pool_Join A S b mb m v o n wx hE h2 h7 h8 hp (by omega))
  have HW := Lib.hid (show (∃ k, (q.takeOp o n).1 = k ∧ k ≠ 0 ∧ s.leaveOp o j n c = (k, s)) ∨ ((q.takeOp o n).1 = 0 ∧ ∃ k, (v.joinOp o n).1 = k ∧ k ≠ 0 ∧ s.leaveOp o j n c = (k, s)) ∨ ((q.takeOp o n).1 = 0 ∧ (v.joinOp o n).1 = 0 ∧ s.leaveOp o j n c = (0, (s.setP j (q.takeOp o n).2).setW j c (v.joinOp o n).2)) by
    have hv : (s.find j c).getD QS.new = v := by rw [hf]; rfl
    by_cases ht : (q.takeOp o n).1 = 0
    · by_cases hjn : (v.joinOp o n).1 = 0
      · exact .inr (.inr ⟨ht, hjn, leave_in hq hcy ht hv hjn⟩)
      · exact .inr (.inl ⟨ht, _, rfl, hjn, leave_join hq hcy ht hv hjn⟩)
    · exact .inl ⟨_, rfl, ht, leave_take hq hcy ht⟩)
  have HL := Lib.hid (fun q' v' w4 pb mb hs M => hL.leaves (q' := q') (v' := v') (w4 := w4) (pb := pb) (mb := mb) (wb := L.pb j (some c)) (wx := L.pm j (some c)) hF hlt hj hi hg (c := c) hs (Nat.le_succ m) M (.inr ⟨rfl, rfl, by rw [hf]; rfl⟩))
  have HPV := Lib.hid hpv
  have HU := Lib.hid (fun w3 w4 (hb : Below w.heap.size w w3) (hp : PoolP (L.pb j (some c)) (L.pm j (some c)) (m + 1) v w3 w4) =>
    ((StakesP.after (sb := sb) (n := m + 1) (s := s) hb hlt ((hL.keep (Keep.of_below (F := fun _ => False) hb) (fun _ _ => id)).turned hF (fun b hx => Nat.lt_of_lt_of_le (hlt b hx) hb.size) hj (q := v) (show s.get j (some c) = some v from hf) hp (Nat.le_succ m) hL.ok (fun _ _ => rfl)
      (fun j' oc' _ => ⟨by rintro ⟨rfl, rfl⟩; exact hf, fun _ => rfl⟩))).mono (Nat.le_succ (m + 1)) : StakesP sb F (m + 2) s w w4))
  have HOK := Lib.hid (SS.leaveOp_ok hL.ok o j n c)
  clear hWV hSA hL hF hlt hE hq hg hf hi hpv
  go_enter Tryd.func9, Tryd.ntmps9
  go_upto_region 7 with (first
    | (go_at_call 24; refine HB.out.mono ?_; rintro e w' ⟨rfl, rfl⟩)
    | (go_at_call 26; refine HC.out.mono ?_; rintro e w' ⟨rfl, rfl⟩; rw [ec]))
  go_cut [14, 15] (fun p x wx => p = .pointer (some ⟨w.heap.size + 1, 0, none⟩) ∧ x = .pointer (some ⟨L.pb j (some c), 0, none⟩) ∧ CopyW w m q wx)
  case first =>
    go_region_with (go_at_call 27; refine HCP.out.mono ?_; rintro e w1 ⟨rfl, hb1, hp1, hs1⟩; have hb1' : Below w.heap.size w w1 := (⟨hb1.os, hb1.tape, hb1.output, hb1.size, hb1.block⟩); obtain ⟨x0, x1, x2⟩ := HX.out w1 hb1')
    all_goals go_wp2_with fail
    all_goals go_meet
    all_goals (case rel => exact ⟨rfl, rfl, hb1', hp1, hs1⟩)
  case rest =>
    obtain ⟨rfl, rfl, hcut⟩ := hcut
    have HK := Lib.hid hcut; clear hcut
    have HEc := Lib.hid (HE.out.below HK.out.below)
    rcases HW.out with ⟨k, ht, hk, E⟩ | ⟨ht, k, hjn, hk, E⟩ | ⟨ht, hjn, E⟩
    · have et : ev A (q.takeOp o n).1 = .iface 181 (.pointer (some (A k))) := by rw [ht]; exact ev_some A hk
      have E1 := Lib.hid E; clear E ht
      go_wp2_with (first
        | (go_at_call 28; refine (HTK.out _ HEc.out HK.out.pool).mono ?_; rintro e w3 ⟨rfl, h3⟩; rw [et]))
      go_ret
      rw [E1.out]
      exact ⟨by rw [ev_some A hk]; rfl, HS.out _ (Keep.after HK.out.below h3.1 (fun i hi => by rcases hi with rfl | rfl <;> omega))⟩
    · have et : ev A (q.takeOp o n).1 = .nilIface := by rw [ht]; rfl
      have ej : ev A (v.joinOp o n).1 = .iface 181 (.pointer (some (A k))) := by rw [hjn]; exact ev_some A hk
      have HJC := Lib.hid (show (v.joinOp o n).1 ≠ 0 by rw [hjn]; exact hk)
      have E1 := Lib.hid E; clear E ht hjn
      go_wp2_with (first
        | (go_at_call 28; refine (HTK.out _ HEc.out HK.out.pool).mono ?_; rintro e w3 ⟨rfl, h3⟩; rw [et]; have H3 := Lib.hid h3; have HB3 := Lib.hid (Keep.after HK.out.below h3.1 (fun i hi => by rcases hi with rfl | rfl <;> omega)); clear h3; have HP3 := Lib.hid ((HPV.out.below HK.out.below lpv.1 lpv.2).keep H3.out.1 (by omega) (by omega)))
        | (go_at_call 25; refine (HJN.out _ _ _ (HE.out.below HB3.out) HP3.out).mono ?_; rintro e w4 ⟨rfl, h4⟩; rw [ej]))
      go_ret
      rw [E1.out]
      exact ⟨by rw [ev_some A hk]; rfl, HU.out _ _ HB3.out (by have h5 := h4; rw [(QS.join_total o n).2 (by have := HJC.out; omega)] at h5; exact h5)⟩
    · have et : ev A (q.takeOp o n).1 = .nilIface := by rw [ht]; rfl
      have ej : ev A (v.joinOp o n).1 = .nilIface := by rw [hjn]; rfl
      have hok := HOK.out; rw [E] at hok
      have HOK2 := Lib.hid hok
      have E1 := Lib.hid E; clear E ht hjn hok
      go_wp2_with (first
        | (go_at_call 28; refine (HTK.out _ HEc.out HK.out.pool).mono ?_; rintro e w3 ⟨rfl, h3⟩; rw [et]; have H3 := Lib.hid h3; have HB3 := Lib.hid (Keep.after HK.out.below h3.1 (fun i hi => by rcases hi with rfl | rfl <;> omega)); clear h3; have HP3 := Lib.hid ((HPV.out.below HK.out.below lpv.1 lpv.2).keep H3.out.1 (by omega) (by omega)))
        | (go_at_call 25; refine (HJN.out _ _ _ (HE.out.below HB3.out) HP3.out).mono ?_; rintro e w4 ⟨rfl, h4⟩; rw [ej];
            have hK4 := ((Keep.of_below (F := fun b => L.role b = .poo j (some c) ∨ L.role b = .map j (some c)) HB3.out).trans (h4.1.mono (fun i hi => by rcases hi with rfl | rfl; exact .inl rpv; exact .inr rmv)));
            have hM : LeaveM w w4 L j c (m + 1) (w.heap.size + 1) w.heap.size (L.pb j (some c)) (L.pm j (some c)) (q.takeOp o n).2 (v.joinOp o n).2 := (⟨hK4, H3.out.2.keep h4.1 (by omega) (by omega), h4.2, by omega, by omega, by omega, by omega, by omega, by omega⟩);
            obtain ⟨D, o5, x0, x1, x2, hend⟩ := HL.out _ _ _ _ _ HOK2.out hM;
            obtain ⟨v0, st, w6, hme, hmt, hst⟩ := own_entry o5 keyI Tryd.underlying53 hm ptrZero (keyOf_int_mk Tryd.underlying3 hcw);
            obtain ⟨w7, hes, o7, ht7⟩ := hst (blkElem_mk (L.pb j (some c)));
            have HEND := Lib.hid (hend w7 ht7 o7);
            clear hend o7 ht7 hst hmt o5 hM h4 hK4))
      go_ret
      rw [E1.out]
      exact ⟨rfl, HEND.out⟩
theorem stake_Leave (A : Nat → Addr) (S : List Nat) (sb : Nat) (F : Nat → Prop) (m : Nat) (s : SS) (o k n c : Int) (w : World) (h : StakesAt sb F m s w) (hE : Errs A S w) (h2 : 2 ∈ S) (h4 : 4 ∈ S) (h6 : 6 ∈ S) (h7 : 7 ∈ S) (h8 : 8 ∈ S) (hm : m + 1 < maxLen) (hcw : (Lit.int .i64 c).wf = true) :
    Calls Tryd.prog 9 #[.pointer (some ⟨sb, 0, none⟩), .int .i64 o, .int .i64 k, .int .i64 n, .int .i64 c] w fun e w' => e = .returned (ev A (s.leaveOp o k n c).1) ∧ StakesP sb F (m + 2) (s.leaveOp o k n c).2 w w' := by
  obtain ⟨L, hL, hF, hlt⟩ := h
  have HS := Lib.hid ((StakesP.refl (F := F) ⟨L, hL, hF, hlt⟩).mono (show m ≤ m + 2 by omega))
  rcases reg_cases hL.ok k with hi | ⟨j, rfl, hj, hi⟩
  · have E := Lib.hid (leave_no (o := o) (n := n) (c := c) hi)
    have HB := Lib.hid (stake_baker_no A S sb L m s k w hL hi hE h4)
    clear hL hF hlt hi hE
    go_enter Tryd.func9, Tryd.ntmps9
    go_wp2_with (go_at_call 24; refine HB.out.mono ?_; rintro e w' ⟨rfl, d, rfl⟩)
    go_ret
    rw [E.out]
    exact ⟨rfl, HS.out.drewN d⟩
  · obtain ⟨q, hq, hg⟩ := SS.is_some hi
    by_cases hcy : cycleC c = 0
    · cases hf : s.find j c with
      | none => exact stake_Leave_none A S sb F m s L o n c j q w hL hF hlt hj hi hq hg hE h2 h6 h7 h8 hm hcw hcy hf
      | some v => exact stake_Leave_some A S sb F m s L o n c j q w hL hF hlt hj hi hq hg hE h2 h6 h7 h8 hm hcw hcy v hf
    · have E := Lib.hid (leave_cyc (o := o) (n := n) hq hcy)
      have HB := Lib.hid (stake_baker_yes sb L m s j w hL hj hi)
      have HC := Lib.hid (stake_cycleError A S c w hE h2)
      have ec : ev A (cycleC c) = .iface 181 (.pointer (some (A 2))) := by
        have : cycleC c = 2 := by unfold cycleC at hcy ⊢; split at hcy <;> simp_all
        rw [this]; rfl
      clear hL hF hlt hi hE hcy hq hg
      go_enter Tryd.func9, Tryd.ntmps9
      go_wp2_with (first
        | (go_at_call 24; refine HB.out.mono ?_; rintro e w' ⟨rfl, rfl⟩)
        | (go_at_call 26; refine HC.out.mono ?_; rintro e w' ⟨rfl, rfl⟩; rw [ec]))
      go_ret
      rw [E.out]
      exact ⟨rfl, HS.out⟩
end Go.Proofs.YtajnfkmkombajacDoor
