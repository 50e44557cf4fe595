/-
  Contracts: stake.cycleError, stake.Leave.
  Plain: what waits, done one by one in whatever order: what is turned so far, and the sums so far. No program in sight.
  Plain: sums over what waits, baker by baker. No program in sight.
  Contracts: stake.Total; what a range over a map of waiting pools meets.
  The listed errors stand while blocks of others turn.
-/
import Derived.Test.YtajnfkmkombajabGreatDoorQSR09
import Derived.Deep.DeepCutAuto
import Derived.Deep.CutBlock
import Derived.Test.YtajnfkmkombajabGreatDoorQSR05
import Derived.Maps.RangeWalk
import Derived.Test.YtajnfkmkombajabGreatDoorQSR01
set_option linter.unusedVariables false
set_option linter.unusedSimpArgs false
set_option linter.unusedVariables false
namespace Go.Proofs.YtajnfkmkombajabGreatDoor
open Go.RowKit Go.Maps

theorem StakesP.of_below {sb n : Nat} {F : Nat → Prop} {s : SS} {w w' : World} (h : StakesAt sb F n s w) (hb : Below w.heap.size w w') : StakesP sb F n s w w' :=
  ⟨Keep.of_below hb, (h.below hb).foot (fun _ hk => .inl hk) (grownF_lt (fun _ hk => h.lt hk) hb.size)⟩
theorem StakesP.after {sb n : Nat} {F : Nat → Prop} {s : SS} {w w1 w2 : World} (hb : Below w.heap.size w w1) (hF : ∀ b, F b → b < w.heap.size) (h : StakesP sb F n s w1 w2) : StakesP sb F n s w w2 := by
  obtain ⟨hk, hs⟩ := h
  have hk2 : Keep F w w2 := (Keep.of_below hb).trans hk
  exact ⟨hk2, hs.foot (fun b hx => by rcases hx with hx | hx; exact .inl hx; right; have := hb.size; omega) (grownF_lt hF hk2.size)⟩

theorem stake_cycleError (A : Nat → Addr) (S : List Nat) (c : Int) (w : World) (hE : Errs A S w) (h2 : 2 ∈ S) :
    Calls Tryz.prog 105 #[.int .i64 c] w fun e w' => e = .returned (ev A (cycleC c)) ∧ w = w' := by
  have g2 : w.cell? ⟨0, 0, none⟩ = some (.iface 235 (.pointer (some (A 2)))) := hE.cell 2 h2
  clear hE
  by_cases hc : cycleC c = 0
  · obtain ⟨h1, h2'⟩ := cycleC_zero.1 hc
    have H := Lib.hid (show ev A (cycleC c) = .nilIface by rw [hc]; rfl)
    clear hc
    go_enter Tryz.func105, Tryz.ntmps105
    go_wp2
    go_ret
    exact ⟨by rw [H.out]; rfl, rfl⟩
  · have hw : c < 0 ∨ (0 ≤ c ∧ 1048576 < c) := by rw [cycleC_zero] at hc; omega
    have H := Lib.hid (show ev A (cycleC c) = .iface 235 (.pointer (some (A 2))) by unfold cycleC; rw [if_pos (by omega)]; rfl)
    clear hc
    rcases hw with h0 | ⟨h0, h1⟩
    all_goals
      go_enter Tryz.func105, Tryz.ntmps105
      go_wp2
      go_ret
      exact ⟨by rw [H.out]; rfl, rfl⟩

/-- the worlds of Leave, up to the two stores -/
structure LeaveM (w w4 : World) (L : Lay) (j : Nat) (c : Int) (m pb mb wb wx : Nat) (q' v' : QS) : Prop where
  keep : Keep (fun b => L.role b = .poo j (some c) ∨ L.role b = .map j (some c)) w w4
  pool : PoolAt pb mb m q' w4
  wait : PoolAt wb wx m v' w4
  n1 : w.heap.size ≤ pb
  n2 : w.heap.size ≤ mb
  d1 : wb ≠ pb
  d2 : wb ≠ mb
  d3 : wx ≠ pb
  d4 : wx ≠ mb

theorem StakesL.leaves {sb n : Nat} {F : Nat → Prop} {L : Lay} {s : SS} {w w4 : World} (h : StakesL sb L n s w) (hF : ∀ b, L.role b ≠ .none → F b) (hlt : ∀ b, F b → b < w.heap.size) {k : Nat} (hk : k < 3) (hi : s.is k = true) {q q' v' : QS} (hq : s.get k none = some q) {c : Int}
    (hs : ((s.setP k q').setW k c v').Ok) {m pb mb wb wx : Nat} (hm : n ≤ m) (M : LeaveM w w4 L k c m pb mb wb wx q' v')
    (r1 : (w.heap.size ≤ wb ∧ w.heap.size ≤ wx) ∨ (wb = L.pb k (some c) ∧ wx = L.pm k (some c) ∧ (s.find k c).isSome = true)) :
    ∃ D : DataW Unit, (w4.setCell ⟨L.bb k, 0, none⟩ (.pointer (some ⟨pb, 0, none⟩))).ownsMap Tryz.prog 3 blkElem (L.wm k) m D ∧ w4.cell? ⟨L.bb k, 0, none⟩ = some (.pointer (some ⟨L.pb k none, 0, none⟩)) ∧ w4.cell? ⟨L.bb k, 1, none⟩ = some (.map (some (L.wm k))) ∧ w4.frozen? ⟨L.bb k, 0, none⟩ = false ∧
      ∀ w7, (w4.setCell ⟨L.bb k, 0, none⟩ (.pointer (some ⟨pb, 0, none⟩))).mapTurned w7 (L.wm k) → w7.ownsMap Tryz.prog 3 blkElem (L.wm k) (m + 1) (D.put (.int .i64 c) (.lit (.int .i64 wb))) → StakesP sb F (m + 1) ((s.setP k q').setW k c v') w w7 := by
  obtain ⟨hb0, rb0⟩ := h.bak k hk hi
  obtain ⟨rw0, D, hD0, hD1⟩ := h.wai k hk hi
  have ne0 : L.bb k ≠ L.wm k := fun e => by rw [e, rw0] at rb0; cases rb0
  have hbb : L.bb k < w.heap.size := hlt _ (hF _ (by rw [rb0]; simp))
  have hwm : L.wm k < w.heap.size := hlt _ (hF _ (by rw [rw0]; simp))
  have hb4 := hb0.keep M.keep (by rw [rb0]; simp)
  have hD4 : w4.ownsMap Tryz.prog 3 blkElem (L.wm k) m D := by
    obtain ⟨es, clock, e1, e2⟩ := hD0.mono hm
    exact ⟨es, clock, M.keep.heap e1 (by rw [rw0]; simp), e2⟩
  have hD5 := hD4.setCell (a := ⟨L.bb k, 0, none⟩) (by exact fun e => ne0 e.symm) (.pointer (some ⟨pb, 0, none⟩))
  refine ⟨D, hD5, by rw [hb4.cell]; rfl, by rw [hb4.cell]; rfl, hb4.frozen 0, fun w7 ht ho => ?_⟩
  have hpoo := h.poo k none q hk hq
  have npb : pb ≠ L.bb k ∧ pb ≠ L.wm k ∧ mb ≠ L.bb k ∧ mb ≠ L.wm k := by have := M.n1; have := M.n2; omega
  have nwb : wb ≠ L.bb k ∧ wb ≠ L.wm k ∧ wx ≠ L.bb k ∧ wx ≠ L.wm k := by
    rcases r1 with ⟨a, b⟩ | ⟨rfl, rfl, r⟩
    · omega
    · obtain ⟨v, hv⟩ := Option.isSome_iff_exists.1 r
      obtain ⟨_, a, b⟩ := h.poo k (some c) v hk hv
      refine ⟨fun e => ?_, fun e => ?_, fun e => ?_, fun e => ?_⟩
      · rw [e, rb0] at a; cases a
      · rw [e, rw0] at a; cases a
      · rw [e, rb0] at b; cases b
      · rw [e, rw0] at b; cases b
  have hK2 : Keep (fun b => b = L.bb k ∨ b = L.wm k) w4 w7 := ((Keep.refl _ _).setCell (p := ⟨L.bb k, 0, none⟩) (.inl (.inl rfl)) _).grown ht.grown (fun i hi' => .inl (.inr (by simpa using hi'.symm)))
  have hK : Keep (fun b => b = L.bb k ∨ b = L.wm k ∨ L.role b = .poo k (some c) ∨ L.role b = .map k (some c)) w w7 :=
    (M.keep.mono (fun b hb => .inr (.inr hb))).trans (hK2.mono (fun b hb => by rcases hb with e | e; exact .inl e; exact .inr (.inl e)))
  refine h.left hF hlt hk hi hq hs (Nat.le_succ_of_le hm) hK ?_ ⟨_, ho, fun c' => ?_⟩ ((M.pool.mono (Nat.le_succ m)).keep hK2 (by omega) (by omega)) ((M.wait.mono (Nat.le_succ m)).keep hK2 (by omega) (by omega)) M.n1 M.n2 M.d1 M.d2 M.d3 M.d4 r1
  · have hr := hb4.set 0 (.pointer (some ⟨pb, 0, none⟩))
    have hlt5 := hr.lt
    exact (ht.grown.block (L.bb k) hlt5 (fun e => ne0 (by simpa using e))).trans hr
  · by_cases hc : c' = c
    · subst hc
      rw [if_pos rfl, atKey_put_same hD5.isMap (show WideAt.IsKeyLit (.int .i64 c') from trivial)]
    · rw [if_neg hc, atKey_put_other (by simpa using hc)]
      exact hD1 c'

theorem leave_no {s : SS} {o k n c : Int} (h : s.is k = false) : s.leaveOp o k n c = (4, s) := by unfold SS.leaveOp; rw [SS.is_none h]
theorem leave_cyc {s : SS} {o k n c : Int} {q : QS} (h : s.pool k = some q) (hc : cycleC c ≠ 0) : s.leaveOp o k n c = (2, s) := by unfold SS.leaveOp; rw [h]; simp only; rw [if_pos hc]
theorem leave_take {s : SS} {o k n c : Int} {q : QS} (h : s.pool k = some q) (hc : cycleC c = 0) (ht : (q.takeOp o n).1 ≠ 0) : s.leaveOp o k n c = ((q.takeOp o n).1, s) := by unfold SS.leaveOp; rw [h]; simp only; rw [if_neg (by simp [hc]), if_pos ht]
theorem leave_join {s : SS} {o k n c : Int} {q v : QS} (h : s.pool k = some q) (hc : cycleC c = 0) (ht : (q.takeOp o n).1 = 0) (hv : (s.find k c).getD QS.new = v) (hj : (v.joinOp o n).1 ≠ 0) : s.leaveOp o k n c = ((v.joinOp o n).1, s) := by
  unfold SS.leaveOp; rw [h]; simp only; rw [if_neg (by simp [hc]), if_neg (by simp [ht]), hv, if_pos hj]
theorem leave_in {s : SS} {o k n c : Int} {q v : QS} (h : s.pool k = some q) (hc : cycleC c = 0) (ht : (q.takeOp o n).1 = 0) (hv : (s.find k c).getD QS.new = v) (hj : (v.joinOp o n).1 = 0) : s.leaveOp o k n c = (0, (s.setP k (q.takeOp o n).2).setW k c (v.joinOp o n).2) := by
  unfold SS.leaveOp; rw [h]; simp only; rw [if_neg (by simp [hc]), if_neg (by simp [ht]), hv, if_neg (by simp [hj])]

theorem ptrZero (w : World) : (zeroValue 89).run Tryz.prog w = .ok (.pointer none) w := by kernel_rfl

/-- what waits[cycle] gives -/
theorem StakesL.look {sb n : Nat} {L : Lay} {s : SS} {w : World} (h : StakesL sb L n s w) {k : Nat} (hk : k < 3) (hi : s.is k = true) (c : Int) (hc : (Lit.int .i64 c).wf = true) (wx : World) (hx : wx.heap[L.wm k]? = w.heap[L.wm k]?) :
    (Instr.lookup 91 (.map (some (L.wm k))) (.int .i64 c) false).run Tryz.prog wx = .ok (if (s.find k c).isSome then .pointer (some ⟨L.pb k (some c), 0, none⟩) else .pointer none) wx := by
  obtain ⟨rw0, D, hD0, hD1⟩ := h.wai k hk hi
  have hDx : wx.ownsMap Tryz.prog 3 blkElem (L.wm k) n D := by
    obtain ⟨es, clock, e1, e2⟩ := hD0
    exact ⟨es, clock, hx.trans e1, e2⟩
  obtain ⟨es, clock, hb, Ft, _, hD⟩ := hDx
  rcases Maps.fit_look false keyI Tryz.underlying91 (ptrZero _) hb Ft (keyOf_int_mk Tryz.underlying3 hc) with ⟨hrun, _, hat⟩ | ⟨e0, y, _, _, hrun, hRv, hat, _⟩
  · rw [hrun]
    have := hat .nil
    rw [← hD, hD1 c] at this
    unfold waitD at this
    cases hs : (s.find k c).isSome with
    | true => rw [hs] at this; simp at this
    | false => rfl
  · rw [hrun]
    have := hat .nil
    rw [← hD, hD1 c] at this
    obtain ⟨b, hb1, rfl⟩ := blkElem_inv hRv
    unfold waitD at this
    cases hs : (s.find k c).isSome with
    | true =>
      rw [hs] at this
      simp only [if_true, DataW.lit.injEq, Lit.int.injEq, true_and] at this
      have e : L.pb k (some c) = b := by omega
      simp only [if_true]; rw [hb1, e]; rfl
    | false => rw [hs] at this; simp at this
end Go.Proofs.YtajnfkmkombajabGreatDoor
namespace Go.Proofs.YtajnfkmkombajabGreatDoor
open Go.RowKit

def SS.partF (s : SS) (done : Int → Int → Bool) (f : WP → WP) : SS := ⟨s.P, s.W.map fun x => if done x.b x.c then f x else x⟩
def SS.sumF (s : SS) (done : Int → Int → Bool) (g : WP → Int) : Int := (s.W.map fun x => if done x.b x.c then g x else 0).sum
def SS.anyF (s : SS) (done : Int → Int → Bool) (p : WP → Bool) : Bool := s.W.any fun x => done x.b x.c && p x
def addD (done : Int → Int → Bool) (k c : Int) : Int → Int → Bool := fun b x => done b x || (b == k && x == c)
theorem addD_same (done : Int → Int → Bool) (k c : Int) : addD done k c k c = true := by simp [addD]
theorem addD_other {done : Int → Int → Bool} {k c b x : Int} (h : ¬ (b = k ∧ x = c)) : addD done k c b x = done b x := by
  unfold addD
  cases hd : done b x with
  | true => rfl
  | false =>
    simp only [Bool.false_or, Bool.and_eq_false_iff, beq_eq_false_iff_ne]
    by_cases e : b = k
    · exact .inr fun e' => h ⟨e, e'⟩
    · exact .inl e

section
variable {s : SS} {done : Int → Int → Bool} {f : WP → WP} {g : WP → Int} {p : WP → Bool}

theorem keepsKey {f : WP → WP} (hf : ∀ x, (f x).b = x.b ∧ (f x).c = x.c) (done : Int → Int → Bool) (x : WP) : ((fun x : WP => if done x.b x.c then f x else x) x).b = x.b ∧ ((fun x : WP => if done x.b x.c then f x else x) x).c = x.c := by
  simp only; split
  · exact hf x
  · exact ⟨rfl, rfl⟩
theorem SS.partF_none (h : ∀ x ∈ s.W, done x.b x.c = false) : s.partF done f = s := by
  unfold SS.partF
  rw [List.map_congr_left (g := id) (fun x hx => by rw [h x hx]; rfl)]; simp
theorem SS.sumF_none (h : ∀ x ∈ s.W, done x.b x.c = false) : s.sumF done g = 0 := by
  unfold SS.sumF
  rw [List.map_congr_left (g := fun _ => (0 : Int)) (fun x hx => by rw [h x hx]; rfl)]
  induction s.W with
  | nil => rfl
  | cons a r ih => simpa using ih
theorem SS.anyF_none (h : ∀ x ∈ s.W, done x.b x.c = false) : s.anyF done p = false := by
  unfold SS.anyF
  rw [List.any_eq_false]
  intro x hx; rw [h x hx]; simp
theorem SS.partF_all (h : ∀ x ∈ s.W, done x.b x.c = true) : s.partF done f = ⟨s.P, s.W.map f⟩ := by
  unfold SS.partF
  rw [List.map_congr_left (g := f) (fun x hx => by rw [h x hx]; rfl)]
theorem SS.sumF_all (h : ∀ x ∈ s.W, done x.b x.c = true) : s.sumF done g = (s.W.map g).sum := by
  unfold SS.sumF
  rw [List.map_congr_left (g := g) (fun x hx => by rw [h x hx]; rfl)]
theorem SS.anyF_all (h : ∀ x ∈ s.W, done x.b x.c = true) : s.anyF done p = s.W.any p := by
  unfold SS.anyF
  rw [Bool.eq_iff_iff, List.any_eq_true, List.any_eq_true]
  constructor
  · rintro ⟨x, hx, h2⟩; exact ⟨x, hx, by rw [h x hx] at h2; simpa using h2⟩
  · rintro ⟨x, hx, h2⟩; exact ⟨x, hx, by rw [h x hx]; simpa using h2⟩

theorem SS.find_partF (hf : ∀ x, (f x).b = x.b ∧ (f x).c = x.c) (k c : Int) : (s.partF done f).find k c = (s.find k c).map fun q => if done k c then (f ⟨k, c, q⟩).q else q := by
  unfold SS.partF SS.find
  simp only
  rw [find_map_same (keepsKey hf done)]
  cases hx : s.W.find? (·.at k c) with
  | none => rfl
  | some x =>
    obtain ⟨rfl, rfl⟩ := WP.at_iff.1 (List.find?_some (p := fun z : WP => z.at k c) hx)
    simp only [Option.map_some]
    split <;> rfl
theorem SS.get_partF_none (k : Nat) : (s.partF done f).get k none = s.get k none := rfl
theorem SS.is_partF (k : Int) : (s.partF done f).is k = s.is k := rfl
theorem SS.Ok.partF (h : s.Ok) (hf : ∀ x, (f x).b = x.b ∧ (f x).c = x.c) (hq : ∀ x, x.q.Ok → (f x).q.Ok) : (s.partF done f).Ok :=
  h.mapW (keepsKey hf done) (fun x hx => by split; exact hq x hx; exact hx)
theorem SS.partF_len : (s.partF done f).W.length = s.W.length := by simp [SS.partF]

/-- what is the state's own word for one more that is done -/
theorem SS.partF_get (hf : ∀ x, (f x).b = x.b ∧ (f x).c = x.c) {k : Nat} {c : Int} {q : QS} (hq : s.find k c = some q) : ∀ (j : Nat) (oc : Option Int), j < 3 →
    (j = k ∧ oc = some c → (s.partF (addD done k c) f).get j oc = some (f ⟨k, c, q⟩).q) ∧ (¬ (j = k ∧ oc = some c) → (s.partF (addD done k c) f).get j oc = (s.partF done f).get j oc) := by
  intro j oc hj
  refine ⟨?_, fun hne => ?_⟩
  · rintro ⟨rfl, rfl⟩
    show (s.partF (addD done j c) f).find j c = _
    rw [SS.find_partF hf, hq, addD_same]; rfl
  · cases oc with
    | none => rfl
    | some c' =>
      show (s.partF (addD done k c) f).find j c' = (s.partF done f).find j c'
      rw [SS.find_partF hf, SS.find_partF hf, addD_other]
      rintro ⟨e, rfl⟩
      exact hne ⟨by omega, rfl⟩
theorem SS.partF_got (hf : ∀ x, (f x).b = x.b ∧ (f x).c = x.c) {k : Nat} {c : Int} {q : QS} (hq : s.find k c = some q) (hd : done k c = false) : (s.partF done f).get k (some c) = some q := by
  show (s.partF done f).find k c = some q
  rw [SS.find_partF hf, hq, hd]; rfl

theorem sumL_add : ∀ (l : List WP) (k c : Int) (q : QS), (l.Pairwise fun x y => ¬ (x.b = y.b ∧ x.c = y.c)) → ⟨k, c, q⟩ ∈ l → done k c = false →
    (l.map fun x => if addD done k c x.b x.c then g x else 0).sum = (l.map fun x => if done x.b x.c then g x else 0).sum + g ⟨k, c, q⟩
  | [], _, _, _, _, h, _ => by cases h
  | x :: r, k, c, q, hp, h, hd => by
    obtain ⟨p1, p2⟩ := List.pairwise_cons.1 hp
    simp only [List.map_cons, List.sum_cons]
    rcases List.mem_cons.1 h with e | e
    · subst e
      have e2 : (r.map fun x => if addD done k c x.b x.c then g x else 0) = r.map fun x => if done x.b x.c then g x else 0 :=
        List.map_congr_left (fun y hy => by rw [addD_other]; rintro ⟨a, b⟩; exact p1 y hy ⟨a.symm, b.symm⟩)
      rw [e2]; simp only [addD_same, hd, if_true, Bool.false_eq_true, if_false]; omega
    · have e1 : addD done k c x.b x.c = done x.b x.c := addD_other (fun hat => p1 _ e ⟨hat.1, hat.2⟩)
      rw [sumL_add r k c q p2 e hd, e1]; omega
theorem SS.sumF_add (h : s.Ok) {k c : Int} {q : QS} (hq : s.find k c = some q) (hd : done k c = false) : s.sumF (addD done k c) g = s.sumF done g + g ⟨k, c, q⟩ :=
  sumL_add s.W k c q h.apart (SS.find_some hq) hd
theorem SS.anyF_add (h : s.Ok) {k c : Int} {q : QS} (hq : s.find k c = some q) : s.anyF (addD done k c) p = (s.anyF done p || p ⟨k, c, q⟩) := by
  unfold SS.anyF
  rw [Bool.eq_iff_iff]
  simp only [List.any_eq_true, Bool.and_eq_true, Bool.or_eq_true]
  have hm := SS.find_some hq
  constructor
  · rintro ⟨x, hx, h1, h2⟩
    by_cases e : x.b = k ∧ x.c = c
    · right
      obtain ⟨rfl, rfl⟩ := e
      have := SS.find_mem h.apart hx
      rw [hq] at this; cases this
      exact h2
    · rw [addD_other e] at h1
      exact .inl ⟨x, hx, h1, h2⟩
  · rintro (⟨x, hx, h1, h2⟩ | h2)
    · exact ⟨x, hx, by unfold addD; rw [h1]; rfl, h2⟩
    · exact ⟨_, hm, addD_same _ _ _, h2⟩
theorem SS.sumF_bd (h : s.Ok) (hg : ∀ x, x.q.Ok → 0 ≤ g x ∧ g x ≤ 1125899906842624) : 0 ≤ s.sumF done g ∧ s.sumF done g ≤ 1125899906842624 * (s.W.length : Int) := by
  unfold SS.sumF
  have : ∀ l : List WP, (∀ x ∈ l, x.q.Ok) → 0 ≤ (l.map fun x => if done x.b x.c then g x else 0).sum ∧ (l.map fun x => if done x.b x.c then g x else 0).sum ≤ 1125899906842624 * (l.length : Int) := by
    intro l hl
    induction l with
    | nil => simp
    | cons a r ih =>
      have h1 := ih (fun x hx => hl x (by simp [hx]))
      have h2 := hg a (hl a (by simp))
      simp only [List.map_cons, List.sum_cons, List.length_cons]
      split <;> omega
  exact this s.W (fun x hx => (h.waits x hx).1)
end

theorem SS.freeOp_of {s : SS} {o c : Int} (h1 : cycleC c = 0) (h2 : ownB o = true) : s.freeOp o c = if s.W.any (·.has o c) then ((s.W.map (·.gets o c)).sum, 0, ⟨s.P, s.W.map (·.left o c)⟩) else (0, 4, ⟨s.P, s.W.map (·.left o c)⟩) := by
  unfold SS.freeOp; rw [if_neg]; rintro (h | h)
  · exact h h1
  · rw [h2] at h; cases h
/-- nothing may be had of it yet -/
theorem WP.stuck {x : WP} {o c : Int} (h : x.free c = false) : x.left o c = x ∧ x.gets o c = 0 ∧ x.has o c = false := by
  unfold WP.left WP.gets WP.has; rw [h]; simp
theorem WP.goes {k c' : Int} {q : QS} {o c : Int} (h : (WP.mk k c' q).free c = true) : ((WP.mk k c' q).left o c).q = (q.leaveOp o).2.2 ∧ (WP.mk k c' q).gets o c = (if (q.leaveOp o).2.1 = 0 then (q.leaveOp o).1 else 0) ∧ (WP.mk k c' q).has o c = ((q.leaveOp o).2.1 == 0) := by
  unfold WP.left WP.gets WP.has; rw [h]; simp
theorem WP.gets_bd (o c : Int) (x : WP) (h : x.q.Ok) : 0 ≤ x.gets o c ∧ x.gets o c ≤ 1125899906842624 := by
  have := QS.leave_pos h o
  unfold WP.gets
  split
  · split <;> omega
  · omega
theorem WP.loses_bd (k f p : Int) (x : WP) (h : x.q.Ok) : 0 ≤ x.loses k f p ∧ x.loses k f p ≤ 1125899906842624 := by
  obtain ⟨_, h1, _⟩ := QS.slash_total h p
  unfold WP.loses
  split <;> omega
end Go.Proofs.YtajnfkmkombajabGreatDoor
namespace Go.Proofs.YtajnfkmkombajabGreatDoor
open Go.RowKit

/-- of the first k bakers all is done; of baker k what is no longer to come -/
def dn (k : Nat) (left : Lit → Bool) : Int → Int → Bool := fun b x => decide (b < (k : Int)) || (b == (k : Int) && !left (.int .i64 x))
/-- of the first k bakers all is done -/
def dk (k : Nat) : Int → Int → Bool := fun b _ => decide (b < (k : Int))
theorem dn_step (k : Nat) (left : Lit → Bool) (x : Int) : dn k (fun z => left z && !z.sameKey (.int .i64 x)) = addD (dn k left) k x := by
  funext b y
  have e : (Lit.int .i64 y).sameKey (.int .i64 x) = (y == x) := by
    by_cases h : y = x
    · subst h; simp [Lit.sameKey]
    · simp [Lit.sameKey, h]
  unfold dn addD
  simp only [e]
  cases decide (b < (k : Int)) <;> cases (b == (k : Int)) <;> cases left (.int .i64 y) <;> cases (y == x) <;> rfl
theorem dn_left {k : Nat} {left : Lit → Bool} {x : Int} (h : left (.int .i64 x) = true) : dn k left (k : Int) x = false := by
  unfold dn; simp [h]
theorem dn_end {k : Nat} {left : Lit → Bool} (h : ∀ kl, left kl = false) : dn k left = dk (k + 1) := by
  funext b y
  unfold dn dk
  rw [h]
  simp only [Bool.not_false, Bool.and_true]
  by_cases h1 : b < (k : Int)
  · rw [decide_eq_true h1, decide_eq_true (show b < ((k + 1 : Nat) : Int) by omega)]; rfl
  · rw [decide_eq_false h1]
    by_cases h2 : b = (k : Int)
    · rw [beq_iff_eq.2 h2, decide_eq_true (show b < ((k + 1 : Nat) : Int) by omega)]; rfl
    · rw [beq_eq_false_iff_ne.2 h2, decide_eq_false (show ¬ b < ((k + 1 : Nat) : Int) by omega)]; rfl

section
variable {s : SS} {g : WP → Int} {f : WP → WP} {p : WP → Bool}
/-- two ways to say what is done that agree on what is there -/
theorem SS.sumF_congr {d1 d2 : Int → Int → Bool} (h : ∀ x ∈ s.W, d1 x.b x.c = d2 x.b x.c) : s.sumF d1 g = s.sumF d2 g := by
  unfold SS.sumF; rw [List.map_congr_left (fun x hx => by rw [h x hx])]
theorem SS.partF_congr {d1 d2 : Int → Int → Bool} (h : ∀ x ∈ s.W, d1 x.b x.c = d2 x.b x.c) : s.partF d1 f = s.partF d2 f := by
  unfold SS.partF; rw [List.map_congr_left (fun x hx => by rw [h x hx])]
theorem any_congr_left {l : List WP} {p q : WP → Bool} (h : ∀ x ∈ l, p x = q x) : l.any p = l.any q := by
  induction l with
  | nil => rfl
  | cons a r ih => rw [List.any_cons, List.any_cons, h a (by simp), ih (fun x hx => h x (by simp [hx]))]
theorem SS.anyF_congr {d1 d2 : Int → Int → Bool} (h : ∀ x ∈ s.W, d1 x.b x.c = d2 x.b x.c) : s.anyF d1 p = s.anyF d2 p := by
  unfold SS.anyF; exact any_congr_left (fun x hx => by rw [h x hx])
theorem SS.Ok.wb (h : s.Ok) {x : WP} (hx : x ∈ s.W) : 0 ≤ x.b ∧ x.b < 3 ∧ s.is x.b = true := by
  have h2 := (h.waits x hx).2.1
  have : ∃ q, s.pool x.b = some q := by
    unfold SS.is at h2
    cases hp : s.pool x.b with
    | none => rw [hp] at h2; cases h2
    | some q => exact ⟨q, rfl⟩
  obtain ⟨q, hq⟩ := this
  have := h.lt hq
  exact ⟨this.1, this.2, h2⟩
theorem dk_zero (h : s.Ok) : ∀ x ∈ s.W, dk 0 x.b x.c = false := fun x hx => by have := (h.wb hx).1; unfold dk; simp; omega
theorem dk_three (h : s.Ok) : ∀ x ∈ s.W, dk 3 x.b x.c = true := fun x hx => by have := (h.wb hx).2.1; unfold dk; simp; omega
/-- a baker that is not registered has nothing that waits -/
theorem dk_skip (h : s.Ok) {k : Nat} (hi : s.is k = false) : ∀ x ∈ s.W, dk k x.b x.c = dk (k + 1) x.b x.c := fun x hx => by
  have h2 := (h.wb hx).2.2
  have hne : x.b ≠ (k : Int) := fun e => by rw [e, hi] at h2; cases h2
  unfold dk
  by_cases h1 : x.b < (k : Int)
  · rw [decide_eq_true h1, decide_eq_true (by omega)]
  · rw [decide_eq_false h1, decide_eq_false (by omega)]

/-- the sum of the first k bakers' pools, and of what is done -/
def SS.tot (s : SS) (k : Nat) (d : Int → Int → Bool) : Int := ((s.P.take k).map optT).sum + s.sumF d (·.q.total)
theorem SS.tot_zero (h : s.Ok) : s.tot 0 (dk 0) = 0 := by unfold SS.tot; rw [SS.sumF_none (dk_zero h)]; simp
theorem SS.tot_three (h : s.Ok) : s.tot 3 (dk 3) = s.total := by
  unfold SS.tot SS.total; rw [SS.sumF_all (dk_three h), List.take_of_length_le (by rw [h.three]; omega)]
theorem SS.take_succ (h : s.Ok) {k : Nat} (hk : k < 3) : ((s.P.take (k + 1)).map optT).sum = ((s.P.take k).map optT).sum + s.staked k := by
  have hl : k < s.P.length := by rw [h.three]; exact hk
  rw [List.take_succ_eq_append_getElem hl, List.map_append, List.sum_append]
  have : s.staked (k : Int) = optT s.P[k] := by
    unfold SS.staked; rw [SS.pool_nat, List.getD_eq_getElem?_getD, List.getElem?_eq_getElem hl]; rfl
  rw [this]; simp
theorem SS.tot_skip (h : s.Ok) {k : Nat} (hk : k < 3) (hi : s.is k = false) : s.tot (k + 1) (dk (k + 1)) = s.tot k (dk k) := by
  unfold SS.tot
  rw [SS.take_succ h hk, SS.sumF_congr (dk_skip h hi)]
  have : s.staked (k : Int) = 0 := by
    unfold SS.is at hi
    unfold SS.staked
    cases hp : s.pool (k : Int) with
    | none => rfl
    | some q => rw [hp] at hi; cases hi
  omega
theorem SS.tot_bd (h : s.Ok) {k : Nat} (hk : k ≤ 3) (d : Int → Int → Bool) : 0 ≤ s.tot k d ∧ s.tot k d ≤ 1125899906842624 * (3 + (s.W.length : Int)) := by
  have h1 := SS.sumF_bd (done := d) (g := fun x => x.q.total) h (fun x hx => ⟨hx.t0, hx.t1⟩)
  have h2 : ∀ l : List (Option QS), (∀ q, some q ∈ l → q.Ok) → 0 ≤ (l.map optT).sum ∧ (l.map optT).sum ≤ 1125899906842624 * (l.length : Int) := by
    intro l hl
    induction l with
    | nil => simp
    | cons a r ih =>
      have := ih (fun q hq => hl q (by simp [hq]))
      have ha : 0 ≤ optT a ∧ optT a ≤ 1125899906842624 := by
        cases a with
        | none => simp [optT]
        | some q => have hq := hl q (by simp); exact ⟨hq.t0, hq.t1⟩
      simp only [List.map_cons, List.sum_cons, List.length_cons]; omega
  have h3 := h2 (s.P.take k) (fun q hq => h.pools q (List.mem_of_mem_take hq))
  have h4 : (s.P.take k).length ≤ 3 := by rw [List.length_take]; omega
  unfold SS.tot; omega
theorem SS.tot_add (h : s.Ok) {k c : Int} {q : QS} {j : Nat} {d : Int → Int → Bool} (hq : s.find k c = some q) (hd : d k c = false) : s.tot j (addD d k c) = s.tot j d + q.total := by
  unfold SS.tot; rw [SS.sumF_add h hq hd]; simp only; omega
end
end Go.Proofs.YtajnfkmkombajabGreatDoor
namespace Go.Proofs.YtajnfkmkombajabGreatDoor
open Go.RowKit Go.Maps

theorem keyInt_inv : ∀ key kl, keyOf Tryz.prog 3 key = some kl → ∃ x, key = Value.int .i64 x := fun key kl hkey => by
  obtain ⟨x, rfl, _⟩ := Maps.keyOf_int_inv Tryz.underlying3 hkey; exact ⟨x, rfl⟩
def blkV (b : Nat) : Value := .pointer (some ⟨b, 0, none⟩)
theorem blkV_inv : ∀ v y, blkElem v = some y → ∃ c, v = blkV c := fun v y hv => by
  obtain ⟨c, rfl, _⟩ := blkElem_inv hv; exact ⟨c, rfl⟩
theorem keyInt_is {x : Int} {kl : Lit} (h : keyOf Tryz.prog 3 (.int .i64 x) = some kl) : kl = .int .i64 x ∧ (Lit.int .i64 x).wf = true := by
  obtain ⟨x', ex, rfl, hw⟩ := Maps.keyOf_int_inv Tryz.underlying3 h
  cases ex; exact ⟨rfl, hw⟩

theorem wait_start {L : Lay} {s : SS} (h : s.Ok) {k : Nat} {D : DataW Unit} (hD : ∀ c : Int, D.atKey (.int .i64 c) .nil = waitD L k c (s.find k c)) : ∀ x ∈ s.W, dn k (Maps.has D) x.b x.c = dk k x.b x.c := by
  intro x hx
  unfold dn dk
  by_cases h2 : x.b = (k : Int)
  · have hf := SS.find_mem h.apart hx
    rw [h2] at hf
    have hh : Maps.has D (.int .i64 x.c) = true := by
      cases hc : Maps.has D (.int .i64 x.c) with
      | true => rfl
      | false =>
        have h1 := hD x.c
        rw [atKey_of_not_has hc, hf] at h1
        simp [waitD] at h1
    rw [hh, h2]; simp
  · rw [beq_eq_false_iff_ne.2 h2]; simp
theorem wait_entry {L : Lay} {s : SS} {k : Nat} {D : DataW Unit} (hD : ∀ c : Int, D.atKey (.int .i64 c) .nil = waitD L k c (s.find k c)) {x : Int} {c : Nat} {y : DataW Unit × List MemPlace} (hy : blkElem (blkV c) = some y)
    (hat : ∀ zd, D.atKey (.int .i64 x) zd = y.1) : ∃ q, s.find k x = some q ∧ c = L.pb k (some x) := by
  have h1 := hat .nil
  rw [hD x] at h1
  have : y = (.lit (.int .i64 c), []) := by have := hy.symm.trans (blkElem_mk c); cases this; rfl
  subst this
  unfold waitD at h1
  cases hf : s.find k x with
  | none => rw [hf] at h1; simp at h1
  | some q =>
    rw [hf] at h1
    simp only [Option.isSome_some, if_true, DataW.lit.injEq, Lit.int.injEq, true_and] at h1
    exact ⟨q, rfl, by omega⟩

theorem StakesL.grown {sb n : Nat} {L : Lay} {s : SS} {w w' : World} (h : StakesL sb L n s w) {r : Option Nat} (hg : w.grownBy w' r) (hr : ∀ b, r = some b → L.role b = .none) : StakesL sb L n s w' := by
  have hk : Keep (fun b => r = some b) w w' := (Keep.refl _ _).grown hg (fun k hk => .inl hk)
  exact h.keep hk (fun b hb he => hb (hr b he))

theorem idx3 (a0 a1 a2 : Value) (i : Nat) (a : Value) (h : #[a0, a1, a2][i]? = some a) (wx : World) : (Instr.index 80 (.agg #[a0, a1, a2]) (.int .i64 i)).run Tryz.prog wx = .ok a wx := by
  have hi : i < 3 := by have := (Array.getElem?_eq_some_iff.1 h).1; simpa using this
  have hsz : ∀ w : World, (sizeOf 79).run Tryz.prog w = .ok 1 w := fun w => by kernel_rfl
  have hag : ∀ w : World, (isAgg 79).run Tryz.prog w = .ok false w := fun w => by kernel_rfl
  have hi' : (i : Int) < 3 := by omega
  simp [Instr.index, run_underlying Tryz.underlying80, asIntOf, hsz, hag, part, Result.andThen]
  have h' : [a0, a1, a2][i]? = some a := by simpa using h
  rw [if_pos hi, h']; rfl

end Go.Proofs.YtajnfkmkombajabGreatDoor
namespace Go.Proofs.YtajnfkmkombajabGreatDoor
open Go.RowKit

theorem Errs.keep {A : Nat → Addr} {S : List Nat} {w w' : World} {F : Nat → Prop} (h : Errs A S w) (k : Keep F w w') (hF : ∀ c ∈ S, ¬ F (gE c)) : Errs A S w' :=
  ⟨fun c hc => by rw [k.cell (p := ⟨gE c, 0, none⟩) (World.block_lt_of_cell? w _ (h.cell c hc)) (hF c hc)]; exact h.cell c hc⟩
theorem Errs.lt {A : Nat → Addr} {S : List Nat} {w : World} (h : Errs A S w) {c : Nat} (hc : c ∈ S) : gE c < w.heap.size := World.block_lt_of_cell? w _ (h.cell c hc)
end Go.Proofs.YtajnfkmkombajabGreatDoor
