/- Contracts: stake.cycleError, stake.Leave. -/
import Derived.Test.YtajnfkmkombajacDoorStake4
import Derived.Test.YtajnfkmkombajacDoorPoolCopy
import Derived.Test.YtajnfkmkombajacDoorMapEntry
import Derived.Deep.DeepCutAuto
import Derived.Deep.CutBlock
set_option linter.unusedVariables false
set_option linter.unusedSimpArgs false
namespace Go.Proofs.YtajnfkmkombajacDoor
open Go.RowKit Go.Maps

theorem StakesP.of_below {sb n : Nat} {F : Nat → Prop} {s : SS} {w w' : World} (h : StakesAt sb F n s w) (hb : Below w.heap.size w w') : StakesP sb F n s w w' :=
  ⟨Keep.of_below hb, (h.below hb).foot (fun _ hk => .inl hk) (grownF_lt (fun _ hk => h.lt hk) hb.size)⟩
theorem StakesP.after {sb n : Nat} {F : Nat → Prop} {s : SS} {w w1 w2 : World} (hb : Below w.heap.size w w1) (hF : ∀ b, F b → b < w.heap.size) (h : StakesP sb F n s w1 w2) : StakesP sb F n s w w2 := by
  obtain ⟨hk, hs⟩ := h
  have hk2 : Keep F w w2 := (Keep.of_below hb).trans hk
  exact ⟨hk2, hs.foot (fun b hx => by rcases hx with hx | hx; exact .inl hx; right; have := hb.size; omega) (grownF_lt hF hk2.size)⟩

theorem stake_cycleError (A : Nat → Addr) (S : List Nat) (c : Int) (w : World) (hE : Errs A S w) (h2 : 2 ∈ S) :
    Calls Tryd.prog 26 #[.int .i64 c] w fun e w' => e = .returned (ev A (cycleC c)) ∧ w = w' := by
  have g2 : w.cell? ⟨0, 0, none⟩ = some (.iface 181 (.pointer (some (A 2)))) := hE.cell 2 h2
  clear hE
  by_cases hc : cycleC c = 0
  · obtain ⟨h1, h2'⟩ := cycleC_zero.1 hc
    have H := Lib.hid (show ev A (cycleC c) = .nilIface by rw [hc]; rfl)
    clear hc
    go_enter Tryd.func26, Tryd.ntmps26
    go_wp2
    go_ret
    exact ⟨by rw [H.out]; rfl, rfl⟩
  · have hw : c < 0 ∨ (0 ≤ c ∧ 1048576 < c) := by rw [cycleC_zero] at hc; omega
    have H := Lib.hid (show ev A (cycleC c) = .iface 181 (.pointer (some (A 2))) by unfold cycleC; rw [if_pos (by omega)]; rfl)
    clear hc
    rcases hw with h0 | ⟨h0, h1⟩
    all_goals
      go_enter Tryd.func26, Tryd.ntmps26
      go_wp2
      go_ret
      exact ⟨by rw [H.out]; rfl, rfl⟩

/-- the worlds of Leave, up to the two stores -/
structure LeaveM (w w4 : World) (L : Lay) (j : Nat) (c : Int) (m pb mb wb wx : Nat) (q' v' : QS) : Prop where
  keep : Keep (fun b => L.role b = .poo j (some c) ∨ L.role b = .map j (some c)) w w4
  pool : PoolAt pb mb m q' w4
  wait : PoolAt wb wx m v' w4
  n1 : w.heap.size ≤ pb
  n2 : w.heap.size ≤ mb
  d1 : wb ≠ pb
  d2 : wb ≠ mb
  d3 : wx ≠ pb
  d4 : wx ≠ mb

theorem StakesL.leaves {sb n : Nat} {F : Nat → Prop} {L : Lay} {s : SS} {w w4 : World} (h : StakesL sb L n s w) (hF : ∀ b, L.role b ≠ .none → F b) (hlt : ∀ b, F b → b < w.heap.size) {k : Nat} (hk : k < 3) (hi : s.is k = true) {q q' v' : QS} (hq : s.get k none = some q) {c : Int}
    (hs : ((s.setP k q').setW k c v').Ok) {m pb mb wb wx : Nat} (hm : n ≤ m) (M : LeaveM w w4 L k c m pb mb wb wx q' v')
    (r1 : (w.heap.size ≤ wb ∧ w.heap.size ≤ wx) ∨ (wb = L.pb k (some c) ∧ wx = L.pm k (some c) ∧ (s.find k c).isSome = true)) :
    ∃ D : DataW Unit, (w4.setCell ⟨L.bb k, 0, none⟩ (.pointer (some ⟨pb, 0, none⟩))).ownsMap Tryd.prog 3 blkElem (L.wm k) m D ∧ w4.cell? ⟨L.bb k, 0, none⟩ = some (.pointer (some ⟨L.pb k none, 0, none⟩)) ∧ w4.cell? ⟨L.bb k, 1, none⟩ = some (.map (some (L.wm k))) ∧ w4.frozen? ⟨L.bb k, 0, none⟩ = false ∧
      ∀ w7, (w4.setCell ⟨L.bb k, 0, none⟩ (.pointer (some ⟨pb, 0, none⟩))).mapTurned w7 (L.wm k) → w7.ownsMap Tryd.prog 3 blkElem (L.wm k) (m + 1) (D.put (.int .i64 c) (.lit (.int .i64 wb))) → StakesP sb F (m + 1) ((s.setP k q').setW k c v') w w7 := by
  obtain ⟨hb0, rb0⟩ := h.bak k hk hi
  obtain ⟨rw0, D, hD0, hD1⟩ := h.wai k hk hi
  have ne0 : L.bb k ≠ L.wm k := fun e => by rw [e, rw0] at rb0; cases rb0
  have hbb : L.bb k < w.heap.size := hlt _ (hF _ (by rw [rb0]; simp))
  have hwm : L.wm k < w.heap.size := hlt _ (hF _ (by rw [rw0]; simp))
  have hb4 := hb0.keep M.keep (by rw [rb0]; simp)
  have hD4 : w4.ownsMap Tryd.prog 3 blkElem (L.wm k) m D := by
    obtain ⟨es, clock, e1, e2⟩ := hD0.mono hm
    exact ⟨es, clock, M.keep.heap e1 (by rw [rw0]; simp), e2⟩
  have hD5 := hD4.setCell (a := ⟨L.bb k, 0, none⟩) (by exact fun e => ne0 e.symm) (.pointer (some ⟨pb, 0, none⟩))
  refine ⟨D, hD5, by rw [hb4.cell]; rfl, by rw [hb4.cell]; rfl, hb4.frozen 0, fun w7 ht ho => ?_⟩
  have hpoo := h.poo k none q hk hq
  have npb : pb ≠ L.bb k ∧ pb ≠ L.wm k ∧ mb ≠ L.bb k ∧ mb ≠ L.wm k := by have := M.n1; have := M.n2; omega
  have nwb : wb ≠ L.bb k ∧ wb ≠ L.wm k ∧ wx ≠ L.bb k ∧ wx ≠ L.wm k := by
    rcases r1 with ⟨a, b⟩ | ⟨rfl, rfl, r⟩
    · omega
    · obtain ⟨v, hv⟩ := Option.isSome_iff_exists.1 r
      obtain ⟨_, a, b⟩ := h.poo k (some c) v hk hv
      refine ⟨fun e => ?_, fun e => ?_, fun e => ?_, fun e => ?_⟩
      · rw [e, rb0] at a; cases a
      · rw [e, rw0] at a; cases a
      · rw [e, rb0] at b; cases b
      · rw [e, rw0] at b; cases b
  have hK2 : Keep (fun b => b = L.bb k ∨ b = L.wm k) w4 w7 := ((Keep.refl _ _).setCell (p := ⟨L.bb k, 0, none⟩) (.inl (.inl rfl)) _).grown ht.grown (fun i hi' => .inl (.inr (by simpa using hi'.symm)))
  have hK : Keep (fun b => b = L.bb k ∨ b = L.wm k ∨ L.role b = .poo k (some c) ∨ L.role b = .map k (some c)) w w7 :=
    (M.keep.mono (fun b hb => .inr (.inr hb))).trans (hK2.mono (fun b hb => by rcases hb with e | e; exact .inl e; exact .inr (.inl e)))
  refine h.left hF hlt hk hi hq hs (Nat.le_succ_of_le hm) hK ?_ ⟨_, ho, fun c' => ?_⟩ ((M.pool.mono (Nat.le_succ m)).keep hK2 (by omega) (by omega)) ((M.wait.mono (Nat.le_succ m)).keep hK2 (by omega) (by omega)) M.n1 M.n2 M.d1 M.d2 M.d3 M.d4 r1
  · have hr := hb4.set 0 (.pointer (some ⟨pb, 0, none⟩))
    have hlt5 := hr.lt
    exact (ht.grown.block (L.bb k) hlt5 (fun e => ne0 (by simpa using e))).trans hr
  · by_cases hc : c' = c
    · subst hc
      rw [if_pos rfl, atKey_put_same hD5.isMap (show WideAt.IsKeyLit (.int .i64 c') from trivial)]
    · rw [if_neg hc, atKey_put_other (by simpa using hc)]
      exact hD1 c'

theorem leave_no {s : SS} {o k n c : Int} (h : s.is k = false) : s.leaveOp o k n c = (4, s) := by unfold SS.leaveOp; rw [SS.is_none h]
theorem leave_cyc {s : SS} {o k n c : Int} {q : QS} (h : s.pool k = some q) (hc : cycleC c ≠ 0) : s.leaveOp o k n c = (2, s) := by unfold SS.leaveOp; rw [h]; simp only; rw [if_pos hc]
theorem leave_take {s : SS} {o k n c : Int} {q : QS} (h : s.pool k = some q) (hc : cycleC c = 0) (ht : (q.takeOp o n).1 ≠ 0) : s.leaveOp o k n c = ((q.takeOp o n).1, s) := by unfold SS.leaveOp; rw [h]; simp only; rw [if_neg (by simp [hc]), if_pos ht]
theorem leave_join {s : SS} {o k n c : Int} {q v : QS} (h : s.pool k = some q) (hc : cycleC c = 0) (ht : (q.takeOp o n).1 = 0) (hv : (s.find k c).getD QS.new = v) (hj : (v.joinOp o n).1 ≠ 0) : s.leaveOp o k n c = ((v.joinOp o n).1, s) := by
  unfold SS.leaveOp; rw [h]; simp only; rw [if_neg (by simp [hc]), if_neg (by simp [ht]), hv, if_pos hj]
theorem leave_in {s : SS} {o k n c : Int} {q v : QS} (h : s.pool k = some q) (hc : cycleC c = 0) (ht : (q.takeOp o n).1 = 0) (hv : (s.find k c).getD QS.new = v) (hj : (v.joinOp o n).1 = 0) : s.leaveOp o k n c = (0, (s.setP k (q.takeOp o n).2).setW k c (v.joinOp o n).2) := by
  unfold SS.leaveOp; rw [h]; simp only; rw [if_neg (by simp [hc]), if_neg (by simp [ht]), hv, if_neg (by simp [hj])]

theorem ptrZero (w : World) : (zeroValue 51).run Tryd.prog w = .ok (.pointer none) w := by kernel_rfl

/-- what waits[cycle] gives -/
theorem StakesL.look {sb n : Nat} {L : Lay} {s : SS} {w : World} (h : StakesL sb L n s w) {k : Nat} (hk : k < 3) (hi : s.is k = true) (c : Int) (hc : (Lit.int .i64 c).wf = true) (wx : World) (hx : wx.heap[L.wm k]? = w.heap[L.wm k]?) :
    (Instr.lookup 53 (.map (some (L.wm k))) (.int .i64 c) false).run Tryd.prog wx = .ok (if (s.find k c).isSome then .pointer (some ⟨L.pb k (some c), 0, none⟩) else .pointer none) wx := by
  obtain ⟨rw0, D, hD0, hD1⟩ := h.wai k hk hi
  have hDx : wx.ownsMap Tryd.prog 3 blkElem (L.wm k) n D := by
    obtain ⟨es, clock, e1, e2⟩ := hD0
    exact ⟨es, clock, hx.trans e1, e2⟩
  obtain ⟨es, clock, hb, Ft, _, hD⟩ := hDx
  rcases Maps.fit_look false keyI Tryd.underlying53 (ptrZero _) hb Ft (keyOf_int_mk Tryd.underlying3 hc) with ⟨hrun, _, hat⟩ | ⟨e0, y, _, _, hrun, hRv, hat, _⟩
  · rw [hrun]
    have := hat .nil
    rw [← hD, hD1 c] at this
    unfold waitD at this
    cases hs : (s.find k c).isSome with
    | true => rw [hs] at this; simp at this
    | false => rfl
  · rw [hrun]
    have := hat .nil
    rw [← hD, hD1 c] at this
    obtain ⟨b, hb1, rfl⟩ := blkElem_inv hRv
    unfold waitD at this
    cases hs : (s.find k c).isSome with
    | true =>
      rw [hs] at this
      simp only [if_true, DataW.lit.injEq, Lit.int.injEq, true_and] at this
      have e : L.pb k (some c) = b := by omega
      simp only [if_true]; rw [hb1, e]; rfl
    | false => rw [hs] at this; simp at this
end Go.Proofs.YtajnfkmkombajacDoor
