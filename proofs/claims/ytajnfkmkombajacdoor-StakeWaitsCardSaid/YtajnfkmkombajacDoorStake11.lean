/- Contract: stake.Waits; stakes in memory that is new; the closed fact of the stakes' laws. -/
import Derived.Test.YtajnfkmkombajacDoorStake10
import Derived.Test.YtajnfkmkombajacDoorStake6
set_option linter.unusedVariables false
set_option linter.unusedSimpArgs false
namespace Go.Proofs.YtajnfkmkombajacDoor
open Go.RowKit Go.Maps

theorem SS.waits_no {s : SS} (h : s.Ok) {k : Int} (hi : s.is k = false) (o c : Int) : s.waits o k c = 0 := by
  unfold SS.waits
  cases hf : s.find k c with
  | none => rfl
  | some q => have := (h.waits _ (SS.find_some hf)).2.1; simp only at this; rw [hi] at this; cases this

set_option maxRecDepth 8000 in
theorem stake_Waits (A : Nat → Addr) (S : List Nat) (sb m : Nat) (L : Lay) (s : SS) (o k c : Int) (w : World) (h : StakesL sb L m s w) (hE : Errs A S w) (h2 : 2 ∈ S) (ho : (Lit.int .i64 o).wf = true) (hc : (Lit.int .i64 c).wf = true) :
    Calls Tryd.prog 12 #[.pointer (some ⟨sb, 0, none⟩), .int .i64 o, .int .i64 k, .int .i64 c] w fun e w' => e = .returned (.int .i64 (s.waits o k c)) ∧ Dr w w' := by
  have HI := Lib.hid (stake_Is sb L m s k w h)
  rcases reg_cases h.ok k with hi | ⟨j, rfl, hj, hi⟩
  · rw [hi] at HI
    have HV := Lib.hid (SS.waits_no h.ok hi o c)
    clear h hi hE
    go_enter Tryd.func12, Tryd.ntmps12
    go_wp2_with (go_at_call 22; refine HI.out.mono ?_; rintro e w' ⟨rfl, rfl⟩)
    go_ret
    exact ⟨by rw [HV.out]; rfl, Dr.refl _⟩
  · rw [hi] at HI
    have hcl := h.cell hj
    rw [bptr_yes hi] at hcl
    obtain ⟨c0, c1⟩ := h.baker hj hi
    have hlk := h.look hj hi c hc w rfl
    cases hf : s.find j c with
    | none =>
      rw [hf] at hlk
      simp only [Option.isSome_none, Bool.false_eq_true, if_false] at hlk
      have HV := Lib.hid (show s.waits o j c = 0 by unfold SS.waits; rw [hf]; rfl)
      clear h hi hE hf
      go_enter Tryd.func12, Tryd.ntmps12
      go_wp2_with (go_at_call 22; refine HI.out.mono ?_; rintro e w' ⟨rfl, rfl⟩)
      go_ret
      exact ⟨by rw [HV.out]; rfl, Dr.refl _⟩
    | some q =>
      rw [hf] at hlk
      simp only [Option.isSome_some, if_true] at hlk
      have HV := Lib.hid (show s.waits o j c = q.value o by unfold SS.waits; rw [hf]; rfl)
      have HP := Lib.hid (pool_Value A S _ _ _ _ o w hE h2 (h.poo j (some c) q hj hf).1 ho)
      clear h hi hE hf
      go_enter Tryd.func12, Tryd.ntmps12
      go_wp2_with (first
        | (go_at_call 22; refine HI.out.mono ?_; rintro e w' ⟨rfl, rfl⟩)
        | (go_at_call 31; refine HP.out.mono ?_; rintro e w' ⟨rfl, d, rfl⟩))
      go_ret
      exact ⟨by rw [HV.out]; rfl, d, rfl⟩

/-- stakes in memory that is new since W -/
structure SU (W : World) (sb : Nat) (F : Nat → Prop) (n : Nat) (s : SS) (w : World) : Prop where
  below : Below W.heap.size W w
  st : StakesAt sb F n s w
  new : ∀ b, F b → W.heap.size ≤ b
section
variable {W w w' : World} {sb n m : Nat} {F : Nat → Prop} {s s' : SS}
theorem SU.of (h : SU W sb F n s w) (k : StakesP sb F m s' w w') : SU W sb (grownF F w w') m s' w' :=
  ⟨Keep.after h.below k.1 h.new, k.2, fun b hb => by rcases hb with hb | hb; exact h.new b hb; exact Nat.le_trans h.below.size hb.1⟩
theorem SU.next (h : SU W sb F n s w) (k : Below w.heap.size w w') : SU W sb F n s w' := ⟨btrans h.below k, h.st.below k, h.new⟩
theorem SU.drewN (h : SU W sb F n s w) (k : Nat) : SU W sb F n s (w.drewN k) := ⟨h.below.drewN k, h.st.drewN k, h.new⟩
theorem SU.dr (h : SU W sb F n s w) (k : Dr w w') : SU W sb F n s w' := by obtain ⟨j, rfl⟩ := k; exact h.drewN j
theorem SU.mono (h : SU W sb F n s w) (hm : n ≤ m) : SU W sb F m s w := ⟨h.below, h.st.mono hm, h.new⟩
theorem SU.keep {G : Nat → Prop} (h : SU W sb F n s w) (k : Keep G w w') (hG : ∀ b, G b → W.heap.size ≤ b) (hd : ∀ b, F b → ¬ G b) : SU W sb F n s w' := ⟨Keep.after h.below k hG, h.st.keep k hd, h.new⟩
theorem SU.fe {A : Nat → Addr} {S : List Nat} (h : SU W sb F n s w) (hE : Errs A S W) : ∀ c ∈ S, ¬ F (gE c) := fun c hc hf => by have := h.new _ hf; have := hE.lt hc; omega
theorem grownF_not {b : Nat} (hF : ¬ F b) (hb : b < w.heap.size) : ¬ grownF F w w' b := fun h => by rcases h with h | h; exact hF h; omega
end

theorem SS.join_len (s : SS) (o k n : Int) : (s.joinOp o k n).2.W = s.W := by unfold SS.joinOp; cases s.pool k <;> rfl
theorem SS.add_len (s : SS) (k n : Int) : (s.addOp k n).2.W = s.W := by unfold SS.addOp; cases s.pool k <;> rfl
theorem SS.reg_len (s : SS) (k : Int) : (s.regOp k).2.W = s.W := by unfold SS.regOp; split; rfl; split <;> rfl
theorem SS.free_len (s : SS) (o c : Int) : (s.freeOp o c).2.2.W.length = s.W.length := by unfold SS.freeOp; split; rfl; split <;> simp
theorem SS.slash_len (s : SS) (k f p : Int) : (s.slashOp k f p).2.2.W.length = s.W.length := by
  unfold SS.slashOp
  cases s.pool k with
  | none => rfl
  | some q => simp only; split <;> simp
theorem SS.setW_len (s : SS) (k c : Int) (q : QS) : (s.setW k c q).W.length ≤ s.W.length + 1 := by unfold SS.setW; simp only; split <;> simp
theorem SS.leave_len (s : SS) (o k n c : Int) : (s.leaveOp o k n c).2.W.length ≤ s.W.length + 1 := by
  unfold SS.leaveOp
  cases s.pool k with
  | none => simp
  | some q =>
    simp only
    split
    · simp
    · split
      · simp
      · split
        · simp
        · exact SS.setW_len _ _ _ _

theorem staked_facts : ∃ s1 s2 s3 : SS, SS.new.regOp 1 = (0, s1) ∧ s1.joinOp 4 1 10 = (0, s2) ∧ s2.leaveOp 4 1 3 5 = (0, s3) ∧ s3.staked 1 = 7 ∧ s3.total = 10 ∧ s3.waits 4 1 5 = 3 ∧ s3.W.length ≤ 8000 :=
  ⟨_, _, _, rfl, rfl, rfl, by rfl, by rfl, by rfl, by decide⟩
end Go.Proofs.YtajnfkmkombajacDoor
